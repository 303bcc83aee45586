/- THE CLAIM'S TEXTS, part 1: what its proof needs of the theory, the functions, their equations and the laws. No condition. -/
import Derived.Orders
import Derived.LoopN
import Derived.Below
import Derived.Laws.ComplexArith
import Derived.Laws.Cover2
import Derived.Laws.Tables
import Derived.Laws.AppendOwn
import Derived.Laws.IdiomCopy
import Derived.Laws.Entries
import Derived.ChangeKeysEq
import Derived.Laws.NewFold
import Derived.Laws.BytesString
section
set_option linter.unusedVariables false
set_option linter.unusedSimpArgs false
namespace Go.Proofs.Ytjonpmckkmnemaa.Th
open Go
inductive Ty where
  | int (k : IntKind) | bool | str | flt | cpx
  | slice (e : Ty) | st (f : Ty) | nil | cons (a b : Ty) | ifc (t : Nat) (a : Ty) | clo (f : Nat) (a : Ty) | ref (a : Ty)
  | arr (n : Nat) (e : Ty)
def Ty.den : Ty → Type
  | .int _ => Int
  | .bool => Bool
  | .str => List UInt8
  | .flt => Nat
  | .cpx => Nat × Nat
  | .slice e => List e.den
  | .st f => f.den
  | .nil => Unit
  | .cons a b => a.den × b.den
  | .ifc _ a => a.den
  | .clo _ a => a.den
  | .ref a => a.den
  | .arr _ e => List (List e.den)
def pad {α : Type} (n : Nat) (l : List (List α)) : List (List α) := (List.range n).map fun i => l.getD i []
def Ty.dflt : (T : Ty) → T.den
  | .int _ => (0 : Int)
  | .bool => false
  | .str => ([] : List UInt8)
  | .flt => (0 : Nat)
  | .cpx => ((0, 0) : Nat × Nat)
  | .slice e => ([] : List e.den)
  | .st f => f.dflt
  | .nil => ()
  | .cons a b => (a.dflt, b.dflt)
  | .ifc _ a => a.dflt
  | .clo _ a => a.dflt
  | .ref a => a.dflt
  | .arr n e => (List.replicate n [] : List (List e.den))
def Ty.size : Ty → Nat
  | .arr n _ => n
  | .st f => f.size
  | .nil => 0
  | .cons a b => a.size + b.size
  | _ => 1
def Ty.isSt : Ty → Bool
  | .st _ => true
  | .arr _ _ => true
  | _ => false
def Ty.dec : (a b : Ty) → Option (PLift (a = b))
  | .int j, .int k => if h : j = k then some ⟨by rw [h]⟩ else none
  | .bool, .bool => some ⟨rfl⟩
  | .str, .str => some ⟨rfl⟩
  | .flt, .flt => some ⟨rfl⟩
  | .cpx, .cpx => some ⟨rfl⟩
  | .slice a, .slice b => match a.dec b with | some h => some ⟨by rw [h.down]⟩ | none => none
  | .st a, .st b => match a.dec b with | some h => some ⟨by rw [h.down]⟩ | none => none
  | .nil, .nil => some ⟨rfl⟩
  | .cons a b, .cons c d => match a.dec c, b.dec d with | some h, some k => some ⟨by rw [h.down, k.down]⟩ | _, _ => none
  | .ifc t a, .ifc u b => if h : t = u then (match a.dec b with | some k => some ⟨by rw [h, k.down]⟩ | none => none) else none
  | .clo t a, .clo u b => if h : t = u then (match a.dec b with | some k => some ⟨by rw [h, k.down]⟩ | none => none) else none
  | .ref a, .ref b => match a.dec b with | some h => some ⟨by rw [h.down]⟩ | none => none
  | .arr n a, .arr m b => if h : n = m then (match a.dec b with | some k => some ⟨by rw [h, k.down]⟩ | none => none) else none
  | _, _ => none
structure GRow where
  e : Nat
  T : Ty
  l : List T.den
def gtab : Nat → Option GRow := fun _ => none
inductive AV where
  | undef
  | int (k : IntKind) (n : Int)
  | bool (b : Bool)
  | str (s : List UInt8)
  | flt (b : Nat)
  | cpx (re im : Nat)
  | nilsl
  | sl (T : Ty) (l : List T.den)
  | ref (g : Nat)
  | own (T : Ty) (l : List T.den)
  | agg (cs : List AV)
  | tup (vs : List AV)
  | nilptr
  | ptr (b off : Nat)
  | pim (cs : List AV) (off : Nat)
  | pel (g i off : Nat)
  | view (g i : Nat)
  | fn (f : FuncId) (captured : List AV)
  | nilfn
  | ifv (t : Nat) (T : Ty) (x : T.den)
  | fnv (f : Nat) (T : Ty) (x : T.den)
  | nilif
  | nsl (T : Ty) (l : List T.den)
  | gar (e : Nat) (T : Ty) (l : List T.den)
  | lent (cs : List AV)
  | back (v : AV) (cs : List AV)
  | imm (T : Ty) (x : T.den)
  | fz (v : AV)
  | parr (b off n : Nat) (e : Ty) (i : Nat)
  | lev (b off f : Nat)
  | mp (g : Nat)
def Ty.cells : (T : Ty) → T.den → List AV
  | .int k, n => [.int k n]
  | .bool, b => [.bool b]
  | .str, s => [.str s]
  | .flt, b => [.flt b]
  | .cpx, z => [.cpx z.1 z.2]
  | .slice e, l => [.sl e l]
  | .st f, x => f.cells x
  | .nil, _ => []
  | .cons a b, x => a.cells x.1 ++ b.cells x.2
  | .ifc t a, x => [.ifv t a x]
  | .clo f a, x => [.fnv f a x]
  | .ref a, x => [.imm a x]
  | .arr n e, l => (List.range n).map fun i => .sl e (l.getD i [])
def Ty.av (T : Ty) (x : T.den) : AV := match T.isSt with
  | true => .agg (T.cells x)
  | false => (T.cells x).headD .undef
def oInt (k : IntKind) : List AV → Option Int
  | [.int k' n] => if k = k' then some n else none
  | _ => none
def oBool : List AV → Option Bool
  | [.bool b] => some b
  | _ => none
def oStr : List AV → Option (List UInt8)
  | [.str s] => some s
  | _ => none
def oFlt : List AV → Option Nat
  | [.flt b] => some b
  | _ => none
def oCpx : List AV → Option (Nat × Nat)
  | [.cpx a b] => some (a, b)
  | _ => none
def oSl (e : Ty) : List AV → Option (List e.den)
  | [.nilsl] => some []
  | [.sl T l] => match T.dec e with
    | some h => some (h.down ▸ l)
    | none => none
  | _ => none
def oIfc (t : Nat) (a : Ty) : List AV → Option a.den
  | [.ifv u T x] => if t = u then (match T.dec a with
    | some h => some (h.down ▸ x)
    | none => none) else none
  | _ => none
def oClo (f : Nat) (a : Ty) : List AV → Option a.den
  | [.fnv u T x] => if f = u then (match T.dec a with
    | some h => some (h.down ▸ x)
    | none => none) else none
  | _ => none
def oRef (a : Ty) : List AV → Option a.den
  | [.imm T x] => match T.dec a with
    | some h => some (h.down ▸ x)
    | none => none
  | _ => none
def oNil : List AV → Option Unit
  | [] => some ()
  | _ => none
def oArr (e : Ty) : Nat → List AV → Option (List (List e.den))
  | 0, [] => some []
  | n + 1, c :: cs => match oSl e [c] with
    | some l => match oArr e n cs with
      | some r => some (l :: r)
      | none => none
    | none => none
  | _, _ => none
def Ty.ofCells : (T : Ty) → List AV → Option T.den
  | .int k, cs => oInt k cs
  | .bool, cs => oBool cs
  | .str, cs => oStr cs
  | .flt, cs => oFlt cs
  | .cpx, cs => oCpx cs
  | .slice e, cs => oSl e cs
  | .st f, cs => f.ofCells cs
  | .nil, cs => oNil cs
  | .cons a b, cs => match a.ofCells (cs.take a.size), b.ofCells (cs.drop a.size) with
    | some x, some y => some (x, y)
    | _, _ => none
  | .ifc t a, cs => oIfc t a cs
  | .clo f a, cs => oClo f a cs
  | .ref a, cs => oRef a cs
  | .arr n e, cs => oArr e n cs
def AV.cells : AV → List AV
  | .agg cs => cs
  | .lev b o f => [.ptr b o, .fnv f .nil ()]
  | v => [v]
inductive Tok where
  | abs
  | live (sh : Bool) (T : Ty) (l : List T.den)
  | dead
  | mlive (K : Ty) (l : List K.den)
structure S where
  tmps : Nat → AV
  boxes : Nat → Option (List AV)
  toks : Nat → Tok
inductive Wr where
  | tmp (t : Nat) (v : AV)
  | box (b : Nat) (c : List AV)
  | tok (g : Nat) (c : Tok)
inductive Rs where
  | tmp (t : Nat) | box (b : Nat) | tok (g : Nat)
  deriving DecidableEq
def Wr.rs : Wr → Rs
  | .tmp t _ => .tmp t
  | .box b _ => .box b
  | .tok g _ => .tok g
def upd {α : Type} (f : Nat → α) (t : Nat) (v : α) : Nat → α := fun i => bif Nat.beq i t then v else f i
def S.put (s : S) : Wr → S
  | .tmp t v => { s with tmps := upd s.tmps t v }
  | .box b c => { s with boxes := upd s.boxes b (some c) }
  | .tok g c => { s with toks := upd s.toks g c }
def S.puts (s : S) : List Wr → S
  | [] => s
  | w :: ws => (s.put w).puts ws
inductive Pg where
  | ret (ws : List Wr)
  | fail
  | chk (b : Bool) (k : Pg)
  | ite (b : Bool) (k l : Pg)
  | tmp (t : Nat) (k : AV → Pg)
  | box (b : Nat) (k : Option (List AV) → Pg)
  | tok (g : Nat) (k : Tok → Pg)
  | call (f : FuncId) (args : List AV) (k : AV → Pg)
def Orc := (R : Type) → FuncId → List AV → (AV → Option R) → Option R
def sel {α : Type} (b : Bool) (x y : α) : α := bif b then x else y
def Pg.evalK (O : Orc) {R : Type} (s : S) : Pg → List Rs → (List Rs → List Wr → Option R) → Option R
  | .ret ws, rs, K => K rs ws
  | .fail, _, _ => none
  | .chk b k, rs, K => sel b (k.evalK O s rs K) none
  | .ite b k l, rs, K => sel b (k.evalK O s rs K) (l.evalK O s rs K)
  | .tmp t k, rs, K => (k (s.tmps t)).evalK O s (.tmp t :: rs) K
  | .box b k, rs, K => (k (s.boxes b)).evalK O s (.box b :: rs) K
  | .tok g k, rs, K => (k (s.toks g)).evalK O s (.tok g :: rs) K
  | .call f args k, rs, K => O R f args fun v => (k v).evalK O s rs K
def Pg.Ev (C : FuncId → List AV → AV → Prop) (Rd : Rs → Prop) (s : S) : Pg → List Wr → Prop
  | .ret ws, ws' => ws' = ws
  | .fail, _ => False
  | .chk b k, ws' => b = true ∧ k.Ev C Rd s ws'
  | .ite b k l, ws' => if b then k.Ev C Rd s ws' else l.Ev C Rd s ws'
  | .tmp t k, ws' => Rd (.tmp t) ∧ (k (s.tmps t)).Ev C Rd s ws'
  | .box b k, ws' => Rd (.box b) ∧ (k (s.boxes b)).Ev C Rd s ws'
  | .tok g k, ws' => Rd (.tok g) ∧ (k (s.toks g)).Ev C Rd s ws'
  | .call f args k, ws' => ∃ v, C f args v ∧ (k v).Ev C Rd s ws'
inductive Kn where
  | bool | int (k : IntKind) | str | flt | cpx | slice (elem : TypeId) | struct | ptr (elem : TypeId) | other | arr (n : Nat) (elem : TypeId) | mapb (key elem : TypeId)
structure TInfo where
  kn : Kn
  size : Nat
  bytes : Nat
  ty : Ty
  zero : List AV
  fields : List (Nat × TypeId)
  fsz : List Nat := []
  rep : Bool := true
  eqok : Bool := false
  meths : List (String × FuncId) := []
  arrs : List (Nat × Nat) := []
def Kn.isSt : Kn → Bool
  | .struct => true
  | .arr _ _ => true
  | _ => false
def isSlK : Kn → Bool
  | .slice _ => true
  | _ => false
def Kn.isRec : Kn → Bool
  | .struct => true
  | _ => false
abbrev TEnv := TypeId → Option TInfo
def cst1 : Value → AV
  | .int k n => .int k n
  | .bool b => .bool b
  | .string s => .str s.data.toList
  | .float .f64 b => .flt b
  | .complex .f64 a b => .cpx a b
  | .slice none 0 0 => .nilsl
  | .pointer none => .nilptr
  | .nilIface => .nilif
  | .nilFunc => .nilfn
  | _ => .undef
def chunks (l : List Value) : List AV := l.map cst1
def isPlainCell : AV → Bool
  | .int _ _ | .bool _ | .str _ | .flt _ | .cpx _ _ | .nilsl | .sl _ _ | .ifv _ _ _ | .fnv _ _ _ | .imm _ _ => true
  | _ => false
def cst : Value → AV
  | .agg cs => match (chunks cs.toList).all isPlainCell with | true => .agg (chunks cs.toList) | false => .undef
  | v => cst1 v
def rdg (n : Nat) (k : AV → Pg) : Pg := match gtab n with
  | some r => k (.gar r.e r.T r.l)
  | none => .fail
def rdv : Operand → (AV → Pg) → Pg
  | .tmp t, k => .tmp t k
  | .const v, k => k (cst v)
  | .func f, k => k (.fnv f .nil ())
  | .global n, k => rdg n k
def rdvs : List Operand → (List AV → Pg) → Pg
  | [], k => k []
  | x :: xs, k => rdv x fun v => rdvs xs fun vs => k (v :: vs)
def snap1 (v : AV) (ws : List Wr) (k : AV → List Wr → Pg) : Pg :=
  match v with
  | .ref g => .tok g fun
    | .live sh T l => match sh with
      | true => k (.sl T l) ws
      | false => k (.sl T l) (ws ++ [.tok g (.live true T l)])
    | _ => .fail
  | .int _ _ | .bool _ | .str _ | .flt _ | .cpx _ _ | .nilsl | .sl _ _ | .ifv _ _ _ | .fnv _ _ _ | .imm _ _ => k v ws
  | .fn f cap => match cap with
    | [] => k (.fnv f .nil ()) ws
    | _ => .fail
  | .agg _ => k v ws
  | _ => .fail
def snaps : List AV → List Wr → (List AV → List Wr → Pg) → Pg
  | [], ws, k => k [] ws
  | v :: vs, ws, k => snap1 v ws fun v' ws' => snaps vs ws' fun vs' ws'' => k (v' :: vs') ws''
def content (T : Ty) (v : AV) (k : List T.den → Pg) : Pg :=
  match v with
  | .nilsl => k []
  | .sl T' l => match T'.dec T with | some h => k (h.down ▸ l) | none => .fail
  | .nsl T' l => match T'.dec T with | some h => k (h.down ▸ l) | none => .fail
  | .ref g => .tok g fun
    | .live _ T' l => match T'.dec T with | some h => k (h.down ▸ l) | none => .fail
    | _ => .fail
  | _ => .fail
def lenOf (v : AV) (k : Nat → Pg) : Pg :=
  match v with
  | .nilsl => k 0
  | .sl _ l => k l.length
  | .str s => k s.length
  | .ref g => .tok g fun
    | .live _ _ l => k l.length
    | _ => .fail
  | _ => .fail
def wrd (d : Option Tmp) (v : AV) : List Wr := match d with | some t => [.tmp t v] | none => []
def retv (d : Option Tmp) (v : AV) : Pg := .ret (wrd d v)
def toBytes (s : List UInt8) : List Int := s.map fun b => (b.toNat : Int)
def ofBytes (l : List Int) : List UInt8 := l.map fun n => UInt8.ofNat n.toNat
def bits (op : BinOp) (k : IntKind) (x y : Int) : Int :=
  let a := BitVec.ofInt k.bits x
  let b := BitVec.ofInt k.bits y
  k.wrap (match op with
    | .and => (a &&& b).toNat
    | .or => (a ||| b).toNat
    | .xor => (a ^^^ b).toNat
    | _ => (a &&& ~~~b).toNat : Nat)
def sameI (a b : Int) : Bool := decide (a = b)
def sameB (a b : Bool) : Bool := a == b
def sameS (a b : List UInt8) : Bool := decide (a = b)
def Ty.same : (T : Ty) → T.den → T.den → Bool
  | .int _, x, y => sameI x y
  | .bool, x, y => sameB x y
  | .str, x, y => sameS x y
  | .st f, x, y => f.same x y
  | .nil, _, _ => true
  | .cons a b, x, y => a.same x.1 y.1 && b.same x.2 y.2
  | _, _, _ => false
def cOp (op : BinOp) (a b c d : Nat) : Option (Nat × Nat) := match op with
  | .add => cSumBits .add .f64 a b c d
  | .sub => cSumBits .sub .f64 a b c d
  | .mul => cMulBits a b c d
  | _ => none
def cVal (op : BinOp) (a b c d : Nat) : Nat × Nat := (cOp op a b c d).getD (0, 0)
def cOK (op : BinOp) (a b c d : Nat) : Bool := (cOp op a b c d).isSome
def cSame (a b c d : Nat) : Bool := Op.floatEq .f64 a c && Op.floatEq .f64 b d
def fltOf (n : Int) : Nat := floatOfInt .f64 n
def cpxv (op : BinOp) (a b c d : Nat) (k : AV → Pg) : Pg := match op with
  | .add => .chk (cOK .add a b c d) (k (.cpx (cVal .add a b c d).1 (cVal .add a b c d).2))
  | .sub => .chk (cOK .sub a b c d) (k (.cpx (cVal .sub a b c d).1 (cVal .sub a b c d).2))
  | .mul => .chk (cOK .mul a b c d) (k (.cpx (cVal .mul a b c d).1 (cVal .mul a b c d).2))
  | .eql => k (.bool (cSame a b c d))
  | .neq => k (.bool (!cSame a b c d))
  | _ => .fail
def fltEq (a b : Nat) : Bool := FloatKind.f64.format.order a b == some .eq
def fltLss (a b : Nat) : Bool := FloatKind.f64.format.order a b == some .lt
def fltLeq (a b : Nat) : Bool := FloatKind.f64.format.order a b == some .lt || FloatKind.f64.format.order a b == some .eq
def fltGtr (a b : Nat) : Bool := FloatKind.f64.format.order a b == some .gt
def fltGeq (a b : Nat) : Bool := FloatKind.f64.format.order a b == some .gt || FloatKind.f64.format.order a b == some .eq
def fltv (op : BinOp) (a b : Nat) (k : AV → Pg) : Pg := match op with
  | .eql => k (.bool (fltEq a b))
  | .neq => k (.bool (!fltEq a b))
  | .lss => k (.bool (fltLss a b))
  | .leq => k (.bool (fltLeq a b))
  | .gtr => k (.bool (fltGtr a b))
  | .geq => k (.bool (fltGeq a b))
  | _ => .fail
def iOK (k : IntKind) (b : Nat) : Bool := (floatToIntVal .f64 b k).isSome
def iVal (k : IntKind) (b : Nat) : Int := (floatToIntVal .f64 b k).getD 0
def binv (op : BinOp) (x y : AV) (k : AV → Pg) : Pg :=
  match x, y with
  | .int j a, .int j' b =>
    match op with
    | .shl => .chk (decide (0 ≤ b)) (k (.int j (j.wrap (a * 2 ^ (min b.toNat j.bits)))))
    | .shr => .chk (decide (0 ≤ b)) (k (.int j (a.fdiv (2 ^ (min b.toNat j.bits)))))
    | _ => if j = j' then
      match op with
      | .add => k (.int j (j.wrap (a + b)))
      | .sub => k (.int j (j.wrap (a - b)))
      | .mul => k (.int j (j.wrap (a * b)))
      | .quo => .chk (!decide (b = 0)) (k (.int j (j.wrap (a.tdiv b))))
      | .rem => .chk (!decide (b = 0)) (k (.int j (a.tmod b)))
      | .and | .or | .xor | .andNot => k (.int j (bits op j a b))
      | .eql => k (.bool (decide (a = b)))
      | .neq => k (.bool (!decide (a = b)))
      | .lss => k (.bool (decide (a < b)))
      | .leq => k (.bool (decide (a ≤ b)))
      | .gtr => k (.bool (decide (b < a)))
      | .geq => k (.bool (decide (b ≤ a)))
      | _ => .fail
      else .fail
  | .str a, .str b =>
    match op with
    | .add => .chk (decide (a.length + b.length ≤ 140737488355328)) (k (.str (a ++ b)))
    | .eql => k (.bool (decide (a = b)))
    | .neq => k (.bool (!decide (a = b)))
    | .lss => k (.bool (Op.bytesLess a b))
    | .leq => k (.bool (Op.bytesLess a b || decide (a = b)))
    | .gtr => k (.bool (!(Op.bytesLess a b || decide (a = b))))
    | .geq => k (.bool (!Op.bytesLess a b))
    | _ => .fail
  | .bool a, .bool b =>
    match op with
    | .eql => k (.bool (a == b))
    | .neq => k (.bool (!(a == b)))
    | _ => .fail
  | _, _ => .fail
def unv (op : UnOp) (x : AV) (k : AV → Pg) : Pg :=
  match op, x with
  | .neg, .int j n => k (.int j (j.wrap (0 - n)))
  | .xor, .int j n => k (.int j (bits .xor j (if j.signed then -1 else j.max) n))
  | .not, .bool b => k (.bool (!b))
  | _, _ => .fail
section
variable (TI : TEnv)
def tinf (t : TypeId) (k : TInfo → Pg) : Pg := match TI t with | some i => k i | none => .fail
def unfz : AV → AV
  | .fz v => v
  | v => v
def isFz : AV → Bool
  | .fz _ => true
  | _ => false
def cut (i : TInfo) (cs : List AV) (off : Nat) (ws : List Wr) (k : AV → List Wr → Pg) : Pg :=
  match i.kn.isSt with
  | true => bif decide (off + i.size ≤ cs.length) then snaps (((cs.drop off).take i.size).map unfz) ws fun l ws' => match l.all isPlainCell with | true => k (.agg l) ws' | false => .fail
    else .fail
  | false => match cs[off]? with
    | some v => k (unfz v) ws
    | none => .fail
def splice (cs : List AV) (off : Nat) (new : List AV) : List AV := cs.take off ++ new ++ cs.drop (off + new.length)
def pgLoad (d : Option Tmp) (t : TypeId) (p : AV) : Pg :=
  tinf TI t fun i => match p with
  | .ptr b off => .box b fun
    | some cs => cut i cs off [] fun v ws => .ret (ws ++ wrd d v)
    | none => .fail
  | .pim cs off => cut i cs off [] fun v ws => .ret (ws ++ wrd d v)
  | .imm T x => cut i (T.cells x) 0 [] fun v ws => .ret (ws ++ wrd d v)
  | .pel g j off => .tok g fun
    | .live _ T l => .chk (decide (j < l.length)) (cut i (T.cells (l.getD j T.dflt)) off [] fun v ws => .ret (ws ++ wrd d v))
    | _ => .fail
  | .parr b off n e j => .box b fun
    | some cs => match isSlK i.kn, oArr e n (((cs.drop off).take n).map unfz) with
      | true, some l => retv d (.sl e (l.getD j []))
      | _, _ => .fail
    | none => .fail
  | _ => .fail
def touches (g : Nat) : List Wr → Bool
  | [] => false
  | .tok h _ :: ws => Nat.beq g h || touches g ws
  | _ :: ws => touches g ws
def AV.isVal : AV → Bool
  | .undef => false
  | .tup _ => false
  | .lent _ => false
  | .back _ _ => false
  | .fz _ => false
  | _ => true
def pgStore (t : TypeId) (p v : AV) : Pg :=
  tinf TI t fun i =>
  match v.isVal && decide (v.cells.length = i.size) with
  | false => .fail
  | true => match p with
    | .ptr b off => .box b fun
      | some cs => match decide (off + i.size ≤ cs.length) && !(((cs.drop off).take i.size).any isFz) with
        | true => .ret [.box b (splice cs off v.cells)]
        | false => .fail
      | none => .fail
    | .pel g j off => snaps v.cells [] fun vs ws => .tok g fun
      | .live false T l =>
        .chk (decide (j < l.length)) (.chk (!touches g ws) (.chk (vs.all isPlainCell) <|
          match decide (off + i.size ≤ T.size), T.ofCells (splice (T.cells (l.getD j T.dflt)) off vs) with
          | true, some x => .ret (ws ++ [.tok g (.live false T (l.set j x))])
          | _, _ => .fail))
      | _ => .fail
    | .parr b off n e j => snap1 v [] fun v ws => match isSlK i.kn, oSl e [v] with
      | true, some x => .box b fun
        | some cs => match oArr e n ((cs.drop off).take n) with
          | some l => .ret (ws ++ [.box b (splice cs off ((Ty.arr n e).cells (l.set j x)))])
          | none => .fail
        | none => .fail
      | _, _ => .fail
    | _ => .fail
def pgIndexAddr (d : Option Tmp) (t : TypeId) (x ix : AV) : Pg :=
  match ix with
  | .int _ n => tinf TI t fun i => match i.kn with
    | .slice e => tinf TI e fun ei => match x with
      | .sl T l => match T.dec ei.ty with
        | some _ => .chk (decide (0 ≤ n)) (.chk (decide (n < l.length)) (retv d (.pim (T.cells (l.getD n.toNat T.dflt)) 0)))
        | none => .fail
      | .ref g => .tok g fun
        | .live _ T l => match T.dec ei.ty with
          | some _ => .chk (decide (0 ≤ n)) (.chk (decide (n < l.length)) (retv d (.pel g n.toNat 0)))
          | none => .fail
        | _ => .fail
      | _ => .fail
    | .arr m et => tinf TI et fun ei => match ei.ty with
      | .slice e => match x with
        | .ptr b off => .chk (decide (0 ≤ n)) (.chk (decide (n < (m : Int))) (retv d (.parr b off m e n.toNat)))
        | .pim cs off => .chk (decide (0 ≤ n)) (.chk (decide (n < (m : Int))) (match oArr e m ((cs.drop off).take m) with
          | some l => retv d (.pim [.sl e (l.getD n.toNat [])] 0)
          | none => .fail))
        | _ => .fail
      | _ => .fail
    | _ => .fail
  | _ => .fail
def pgGar (d : Option Tmp) (t : TypeId) (x ix : AV) : Pg :=
  match x, ix with
  | .gar e T l, .int _ n => tinf TI e fun ei => match T.dec ei.ty with
    | some _ => match ei.arrs.any fun p => Nat.beq p.1 t && Nat.beq p.2 l.length with
      | true => .chk (decide (0 ≤ n)) (.chk (decide (n < l.length)) (retv d (.pim (T.cells (l.getD n.toNat T.dflt)) 0)))
      | false => .fail
    | none => .fail
  | _, _ => .fail
def pgFieldAddr (d : Option Tmp) (t : TypeId) (p : AV) (f : Nat) : Pg :=
  tinf TI t fun i => match i.kn.isRec, i.fields[f]? with
  | true, some (o, ft) => tinf TI ft fun fi => match decide (0 < fi.size) with
    | true => match p with
      | .ptr b off => retv d (.ptr b (off + o))
      | .pim cs off => retv d (.pim cs (off + o))
      | .imm T x => retv d (.pim (T.cells x) o)
      | .pel g j off => retv d (.pel g j (off + o))
      | _ => .fail
    | false => .fail
  | _, _ => .fail
def pgField (d : Option Tmp) (t : TypeId) (x : AV) (f : Nat) : Pg :=
  tinf TI t fun i => match i.kn.isRec, i.fields[f]? with
  | true, some (o, ft) => tinf TI ft fun fi => match x with
    | .agg cs => cut fi cs o [] fun v ws => .ret (ws ++ wrd d v)
    | _ => .fail
  | _, _ => .fail
def placeOf (i : TInfo) (j : Nat) : Option (Nat × Nat) := match i.fields[j]?, i.fsz[j]? with
  | some (o, _), some n => some (o, n)
  | _, _ => none
def fillv (i : TInfo) (cells : List AV) : List (Nat × AV) → Option (List AV)
  | [] => some cells
  | (j, v) :: rest => match placeOf i j with
    | some (o, n) => match decide (v.cells.length = n) && decide (o + n ≤ cells.length) with
      | true => fillv i (splice cells o v.cells) rest
      | false => none
    | none => none
def pgBuild (d : Option Tmp) (t : TypeId) (ps : List (Nat × AV)) : Pg :=
  snaps (ps.map (·.2)) [] fun vs ws => tinf TI t fun i => match i.kn.isRec with
  | true => match fillv i i.zero ((ps.map (·.1)).zip vs) with
    | some cs => match cs.all isPlainCell with
      | true => .ret (ws ++ wrd d (.agg cs))
      | false => .fail
    | none => .fail
  | false => .fail
def litv (T : Ty) : List T.den → List (Nat × AV) → Option (List T.den)
  | l, [] => some l
  | l, (j, v) :: rest => match decide (j < l.length), T.ofCells v.cells with
    | true, some x => litv T (l.set j x) rest
    | _, _ => none
def pgBuildSlice (d : Option Tmp) (t : TypeId) (len : Nat) (ps : List (Nat × AV)) : Pg :=
  match d with
  | none => .fail
  | some tt => snaps (ps.map (·.2)) [] fun vs ws => tinf TI t fun i => match i.kn with
    | .slice e => tinf TI e fun ei => match ei.rep && decide (len * ei.size ≤ 16777216), litv ei.ty (List.replicate len ei.ty.dflt) ((ps.map (·.1)).zip vs) with
      | true, some l => .tok tt fun
        | .abs => .ret (ws ++ [.tok tt (.live false ei.ty l), .tmp tt (.ref tt)])
        | _ => .fail
      | _, _ => .fail
    | _ => .fail
def pgMakeSlice (d : Option Tmp) (t : TypeId) (n c : AV) : Pg :=
  match d, n, c with
  | some tt, .int _ n, .int _ c => tinf TI t fun i => match i.kn with
    | .slice e => tinf TI e fun ei =>
      .chk ei.rep <| .chk (decide (0 ≤ n)) (.chk (decide (n ≤ c)) (.chk (decide (c ≤ 140737488355328)) <| .chk (decide (c * ei.bytes ≤ 140737488355328)) (.tok tt fun
        | .abs => .ret [.tok tt (.live false ei.ty (List.replicate n.toNat ei.ty.dflt)), .tmp tt (.ref tt)]
        | _ => .fail)))
    | _ => .fail
  | _, _, _ => .fail
def appendTo (tt : Tmp) (ei : TInfo) (s : AV) (m : List ei.ty.den) : Pg :=
  match s with
  | .nilsl => .chk (decide (m.length * ei.bytes ≤ 140737488355328)) (.tok tt fun
    | .abs => .ret [.tok tt (.live false ei.ty m), .tmp tt (.ref tt)]
    | _ => .fail)
  | .ref g => .tok g fun
    | .live sh T l => match T.dec ei.ty with
      | some h => .chk (decide ((l.length + m.length) * ei.bytes ≤ 140737488355328)) (.tok tt fun
        | .abs => .ret [.tok g .dead, .tok tt (.live sh ei.ty ((h.down ▸ l) ++ m)), .tmp tt (.ref tt)]
        | _ => .fail)
      | none => .fail
    | _ => .fail
  | _ => .fail
def appendSrc (xt : TypeId) (ei : TInfo) (x : AV) (K : List ei.ty.den → Pg) : Pg :=
  tinf TI xt fun xi => match xi.kn with
  | .str => match x with
    | .str b => match (Ty.int .u8).dec ei.ty with
      | some h => K (cast (congrArg (fun T => List (Ty.den T)) h.down) (toBytes b))
      | none => .fail
    | _ => .fail
  | .slice _ => content ei.ty x K
  | _ => .fail
def pgAppend (d : Option Tmp) (t xt : TypeId) (s x : AV) : Pg :=
  match d with
  | none => .fail
  | some tt => tinf TI t fun i => match i.kn with
    | .slice e => tinf TI e fun ei => .chk (decide (0 < ei.bytes)) (appendSrc TI xt ei x (appendTo tt ei s))
    | _ => .fail
def plainList (T : Ty) (v : AV) (k : List T.den → Pg) : Pg :=
  match v with
  | .nilsl => k []
  | .sl T' l => match T'.dec T with | some h => k (h.down ▸ l) | none => .fail
  | _ => .fail
def bnd (v : Option AV) (dflt : Nat) (k : Int → Pg) : Pg :=
  match v with
  | none => k dflt
  | some (.int _ n) => k n
  | _ => .fail
def pgSlice (d : Option Tmp) (t : TypeId) (x : AV) (lo hi mx : Option AV) : Pg :=
  match x with
  | .str s => tinf TI t fun i => match i.kn, mx with
    | .str, none => bnd lo 0 fun a => bnd hi s.length fun b =>
      .chk (decide (0 ≤ a)) (.chk (decide (a ≤ b)) (.chk (decide (b ≤ s.length)) (retv d (.str ((s.take b.toNat).drop a.toNat)))))
    | _, _ => .fail
  | .pim cs off => tinf TI t fun i => match i.kn, lo, hi, mx with
    | .arr m et, none, none, none => tinf TI et fun ei => match ei.ty with
      | .slice e => match oArr e m ((cs.drop off).take m) with
        | some l => retv d (.sl (.slice e) l)
        | none => .fail
      | _ => .fail
    | _, _, _, _ => .fail
  | _ => tinf TI t fun i => match i.kn with
    | .slice e => tinf TI e fun ei => snap1 x [] fun x' ws => plainList ei.ty x' fun l =>
      bnd lo 0 fun a => bnd hi l.length fun b => bnd mx l.length fun m =>
      .chk (decide (0 ≤ a)) (.chk (decide (a ≤ b)) (.chk (decide (b ≤ m)) (.chk (decide (m ≤ l.length))
        (.ret (ws ++ wrd d (.sl ei.ty ((l.take b.toNat).drop a.toNat)))))))
    | _ => .fail
def pgView (d : Option Tmp) (t : TypeId) (x lo : AV) : Pg := match x, lo with
  | .ref g, .int _ n => tinf TI t fun i => match i.kn with
    | .slice e => tinf TI e fun ei => .tok g fun
      | .live sh T l => match sh, T.dec ei.ty with
        | false, some _ => .chk (decide (0 ≤ n)) (.chk (decide (n ≤ l.length)) (retv d (.view g n.toNat)))
        | _, _ => .fail
      | _ => .fail
    | _ => .fail
  | _, _ => .fail
def pgClear (d : Option Tmp) (t : TypeId) (x : AV) : Pg := match d, x with
  | none, .view g n => tinf TI t fun i => match i.kn with
    | .slice e => tinf TI e fun ei => .chk ei.rep (.tok g fun
      | .live sh T l => match sh, T.dec ei.ty with
        | false, some _ => .chk (decide (n ≤ l.length)) (.ret [.tok g (.live false T (l.take n ++ List.replicate (l.length - n) T.dflt))])
        | _, _ => .fail
      | _ => .fail)
    | _ => .fail
  | _, _ => .fail
def pgConvert (d : Option Tmp) (src dst : TypeId) (x : AV) : Pg :=
  tinf TI src fun _ => tinf TI dst fun i => match i.kn, x with
  | .int k, .int _ n => retv d (.int k (k.wrap n))
  | .flt, .int _ n => retv d (.flt (fltOf n))
  | .int k, .flt b => .chk (iOK k b) (retv d (.int k (iVal k b)))
  | .str, .str s => retv d (.str s)
  | .slice e, .str s => tinf TI e fun ei => match ei.kn, d with
    | .int .u8, some tt => .tok tt fun
      | .abs => .ret [.tok tt (.live false (.int .u8) (toBytes s)), .tmp tt (.ref tt)]
      | _ => .fail
    | _, _ => .fail
  | .slice e, .ref t => match Nat.beq src dst with
    | true => tinf TI e fun ei => match ei.kn with
      | .int .u8 => .tok t fun
        | .live _ T l => match T.dec (.int .u8) with
          | some _ => match l with
            | _ :: _ => retv d (.ref t)
            | [] => .fail
          | none => .fail
        | _ => .fail
      | _ => .fail
    | false => .fail
  | .str, _ => tinf TI src fun si => match si.kn with
    | .slice e => tinf TI e fun ei => match ei.kn with
      | .int .u8 => content (.int .u8) x fun l => retv d (.str (ofBytes l))
      | _ => .fail
    | _ => .fail
  | _, _ => .fail
def pgExtract (d : Option Tmp) (x : AV) (ix : Nat) : Pg :=
  match x with
  | .tup vs => match vs[ix]? with
    | some v => retv d v
    | none => .fail
  | _ => .fail
def tokAt (d j : Nat) : Nat := 1000000 + 8 * d + j
def answers (d : Nat) : List AV → Nat → List AV → List Wr → Pg
  | [], _, vs, ws => .ret (ws ++ [.tmp d (.tup vs)])
  | .own T l :: rest, j, vs, ws => .tok (tokAt d j) fun
    | .abs => answers d rest (j + 1) (vs ++ [.ref (tokAt d j)]) (ws ++ [.tok (tokAt d j) (.live false T l)])
    | _ => .fail
  | v :: rest, j, vs, ws => answers d rest (j + 1) (vs ++ [v]) ws
def answer (d : Option Tmp) (ws : List Wr) (v : AV) : Pg :=
  match v, d with
  | .own T l, some tt => .tok (tokAt tt 0) fun
    | .abs => .ret (ws ++ [.tok (tokAt tt 0) (.live false T l), .tmp tt (.ref (tokAt tt 0))])
    | _ => .fail
  | .tup vs, some tt => answers tt vs 0 [] ws
  | .own _ _, none => .fail
  | .tup _, none => .fail
  | .back _ _, _ => .fail
  | _, _ => .ret (ws ++ wrd d v)
def ofPlain (T : Ty) (v : AV) : Option T.den := match T.isSt with
  | true => match v with
    | .agg cs => T.ofCells cs
    | _ => none
  | false => bif isPlainCell v then T.ofCells [v] else none
structure Pk where
  T : Ty
  x : T.den
def pack1 : AV → Option Pk
  | .int k n => some ⟨.int k, n⟩
  | .bool b => some ⟨.bool, b⟩
  | .str s => some ⟨.str, s⟩
  | .sl T l => some ⟨.slice T, l⟩
  | .ifv t T x => some ⟨.ifc t T, x⟩
  | .fnv f T x => some ⟨.clo f T, x⟩
  | .imm T x => some ⟨.ref T, x⟩
  | _ => none
def pack : List AV → Option Pk
  | [] => some ⟨.nil, ()⟩
  | v :: vs => match pack1 v, pack vs with
    | some a, some b => some ⟨.cons a.T b.T, (a.x, b.x)⟩
    | _, _ => none
def nodupB0 : List Nat → Bool
  | [] => true
  | a :: l => !l.any (Nat.beq a) && nodupB0 l
def capts : List AV → List Wr → List (Nat × List AV) → (List AV → List Wr → List (Nat × List AV) → Pg) → Pg
  | [], ws, bs, k => k [] ws bs
  | .ptr b off :: vs, ws, bs, k => .chk (Nat.beq off 0) (.box b fun
    | some cs => snaps (cs.map unfz) ws fun cs' ws' => match pack cs' with
      | some p => capts vs ws' (bs ++ [(b, cs'.map .fz)]) fun vs' ws'' bs' => k (.imm p.T p.x :: vs') ws'' bs'
      | none => .fail
    | none => .fail)
  | v :: vs, ws, bs, k => snap1 v ws fun v' ws' => capts vs ws' bs fun vs' ws'' bs' => k (v' :: vs') ws'' bs'
def isAt (i off : Nat) (args : List AV) : Bool := match args[i]? with
  | some (.parr _ o _ _ _) => Nat.beq off o
  | some (.ptr _ o) => Nat.beq off o
  | some (.lev _ o _) => Nat.beq off o
  | _ => false
def isClo (i g : Nat) (args : List AV) : Bool := match args[i]? with
  | some (.fnv g' _ _) => Nat.beq g g'
  | _ => false
def findPtr : List AV → Option Nat
  | [] => none
  | .ptr b _ :: _ => some b
  | .parr b _ _ _ _ :: _ => some b
  | .lev b _ _ :: _ => some b
  | _ :: vs => findPtr vs
def lentBox : Nat := 900
def lendArgs (b : Nat) : List AV → List Wr → (List AV → List Wr → Pg) → Pg
  | [], ws, k => k [] ws
  | .ptr b' off :: vs, ws, k => .chk (Nat.beq b' b) (lendArgs b vs ws fun vs' ws' => k (.ptr lentBox off :: vs') ws')
  | .parr b' off n e i :: vs, ws, k => .chk (Nat.beq b' b) (lendArgs b vs ws fun vs' ws' => k (.parr lentBox off n e i :: vs') ws')
  | .lev b' off f :: vs, ws, k => .chk (Nat.beq b' b) (lendArgs b vs ws fun vs' ws' => k (.lev lentBox off f :: vs') ws')
  | v :: vs, ws, k => snap1 v ws fun v' ws' => lendArgs b vs ws' fun vs' ws'' => k (v' :: vs') ws''
def lendCells : List AV → List Wr → (List AV → List Wr → Pg) → Pg
  | [], ws, k => k [] ws
  | .ref t :: cs, ws, k => .tok t fun
    | .live sh T l => .chk (!touches t ws) (match sh with
      | true => lendCells cs ws fun cs' ws' => k (.sl T l :: cs') ws'
      | false => lendCells cs (ws ++ [.tok t .dead]) fun cs' ws' => k (.own T l :: cs') ws')
    | _ => .fail
  | v :: cs, ws, k => match isPlainCell v with
    | true => lendCells cs ws fun cs' ws' => k (v :: cs') ws'
    | false => .fail
def tokL (d j : Nat) : Nat := 200000000 + 1000 * d + j
def backCells (d : Nat) : List AV → Nat → List Wr → (List AV → List Wr → Pg) → Pg
  | [], _, ws, k => k [] ws
  | .own T l :: cs, j, ws, k => .tok (tokL d j) fun
    | .abs => backCells d cs (j + 1) (ws ++ [.tok (tokL d j) (.live false T l)]) fun cs' ws' => k (.ref (tokL d j) :: cs') ws'
    | _ => .fail
  | v :: cs, j, ws, k => match isPlainCell v with
    | true => backCells d cs (j + 1) ws fun cs' ws' => k (v :: cs') ws'
    | false => .fail
def backV1 (b : Nat) : AV → Option AV
  | .ptr b' off => bif Nat.beq b' lentBox then some (.ptr b off) else none
  | .parr b' off n e i => bif Nat.beq b' lentBox then some (.parr b off n e i) else none
  | .lev b' off f => bif Nat.beq b' lentBox then some (.lev b off f) else none
  | .nilptr => some .nilptr
  | .agg cs => bif cs.all isPlainCell then some (.agg cs) else none
  | v => bif isPlainCell v then some v else none
def backVs (b : Nat) : List AV → Option (List AV)
  | [] => some []
  | v :: vs => match backV1 b v, backVs b vs with
    | some v', some vs' => some (v' :: vs')
    | _, _ => none
def backV (b : Nat) : AV → Option AV
  | .tup vs => match backVs b vs with
    | some vs' => some (.tup vs')
    | none => none
  | v => backV1 b v
def blank : AV → AV
  | .own _ _ => .undef
  | v => v
def blanks (cs : List AV) : List AV := cs.map blank
def lendTo (d : Option Tmp) (b : Nat) (ws : List Wr) (v : AV) : Pg := match v, d with
  | .back r cs, some tt => match backV b r with
    | some r' => backCells tt cs 0 (ws ++ [.box b (blanks cs)]) fun cs' ws' => .ret (ws' ++ [.box b cs', .tmp tt r'])
    | none => .fail
  | _, _ => .fail
def peeks : Nat → Bool := fun n => Nat.beq n 51
def peeked (d : Option Tmp) : AV → Pg
  | .int k m => retv d (.int k m)
  | .bool b => retv d (.bool b)
  | _ => .fail
def peekCall (d : Option Tmp) (n : FuncId) (args cap : List AV) : Pg := snaps args [] fun vs _ => .call n (vs ++ cap) fun v => peeked d v
def eats : Nat → Bool := fun n => bif Nat.beq n 30 then true else bif Nat.beq n 34 then true else Nat.beq n 44
def ateTo (d : Option Tmp) (a0 : AV) (ws : List Wr) : AV → Pg
  | .back r [.lent []] => answer d ws r
  | .back (.tup []) [.lent [], .own T l] => match a0 with
    | .ref t => .tok t fun
      | .live false T0 _ => match T.dec T0 with
        | some _ => .ret (ws ++ ([.tok t (.live false T l)] ++ wrd d (.tup [])))
        | none => .fail
      | _ => .fail
    | _ => .fail
  | _ => .fail
def eatCall (d : Option Tmp) (n : FuncId) (cap : List AV) : List AV → Pg
  | [] => .fail
  | a0 :: rest => snaps rest [] fun vs ws => lendCells [a0] ws fun cs ws' => .call n (cs ++ vs ++ cap) fun v => ateTo d a0 ws' v
def pts : Nat → Bool := fun n => Nat.beq n 39 || Nat.beq n 41
def ptTo (d : Option Tmp) (b : Nat) (ws : List Wr) (v : AV) : Pg := match v, d with
  | .back r [.lent [.undef]], some tt => match backV b r with
    | some r' => .ret (ws ++ [.tmp tt r'])
    | none => .fail
  | _, _ => .fail
def lendCall (d : Option Tmp) (n : FuncId) (args cap : List AV) : Pg := match findPtr args with
  | none => bif eats n then eatCall d n cap args else bif peeks n then peekCall d n args cap else snaps args [] fun vs ws => .call n (vs ++ cap) fun v => answer d ws v
  | some b => bif pts n then lendArgs b args [] fun vs ws => .box b fun
    | some _ => .call n (vs ++ cap) fun v => ptTo d b ws v
    | none => .fail
    else lendArgs b args [] fun vs ws => .box b fun
    | some cs => lendCells cs ws fun cs' ws' => .call n (vs ++ cap ++ [.lent cs']) fun v => lendTo d b ws' v
    | none => .fail
def sameName (a b : String) : Bool := a == b
def imms : String → Bool := fun p => bif sameName p "law.go:24" then true else bif sameName p "law.go:57" then true else bif sameName p "ref.go:110" then true else bif sameName p "ref.go:131" then true else bif sameName p "ref.go:149" then true else bif sameName p "ref.go:165" then true else bif sameName p "ref.go:27" then true else bif sameName p "ref.go:71" then true else bif sameName p "ref.go:81" then true else bif sameName p "wheel.go:111" then true else bif sameName p "wheel.go:57" then true else sameName p "wheel.go:62"
def findM : List (String × FuncId) → String → Option FuncId
  | [], _ => none
  | (m, f) :: l, name => bif sameName m name then some f else findM l name
def pgCall (d : Option Tmp) (c : Callee) (args : List AV) (types : List TypeId) : Pg :=
  match c, args with
  | .builtin .len, [x] => match types with
    | [t] => tinf TI t fun i => match i.kn, x with
      | .str, .str b => retv d (.int .i64 b.length)
      | .slice _, .str _ => .fail
      | .slice _, _ => lenOf x fun n => retv d (.int .i64 n)
      | _, _ => .fail
    | _ => .fail
  | .builtin .append, [s, x] => match types with
    | [t, xt] => pgAppend TI d t xt s x
    | _ => .fail
  | .builtin .clear, [x] => match types with
    | [t] => pgClear TI d t x
    | _ => .fail
  | .builtin .complex, [x, y] => match x, y with
    | .flt a, .flt b => retv d (.cpx a b)
    | _, _ => .fail
  | .builtin .real, [x] => match x with
    | .cpx a _ => retv d (.flt a)
    | _ => .fail
  | .builtin .imag, [x] => match x with
    | .cpx _ b => retv d (.flt b)
    | _ => .fail
  | .value f, _ => rdv f fun
    | .fn n cap => snaps args [] fun vs ws => .call n (vs ++ cap) fun v => answer d ws v
    | .fnv n T x => bif T.isSt then snaps args [] fun vs ws => .call n (T.av x :: vs) fun v => answer d ws v else lendCall d n args (T.cells x)
    | _ => .fail
  | .invoke r name, _ => rdv r fun
    | .ifv t T x => tinf TI t fun i => match findM i.meths name with
      | some n => snaps args [] fun vs ws => .call n (T.av x :: vs) fun v => answer d ws v
      | none => .fail
    | _ => .fail
  | _, _ => .fail
def pgIface (d : Option Tmp) (t : TypeId) (v : AV) : Pg :=
  snap1 v [] fun v ws => tinf TI t fun i => match i.kn with
  | .other => .fail
  | .ptr _ => .fail
  | _ => match ofPlain i.ty v with
    | some x => .ret (ws ++ wrd d (.ifv t i.ty x))
    | none => .fail
def pgPick (d : Option Tmp) (c a b : AV) : Pg :=
  match c, a, b with
  | .bool x, .bool y, .bool z => retv d (.bool (bif x then y else z))
  | .bool x, _, _ => .ite x (retv d a) (retv d b)
  | _, _, _ => .fail
def mapKey (t : TypeId) (k : TInfo → Pg) : Pg := tinf TI t fun i => match i.kn with
  | .mapb kt et => tinf TI kt fun ki => tinf TI et fun ei => match ki.eqok, ei.kn with
    | true, .bool => k ki
    | _, _ => .fail
  | _ => .fail
def pgMakeMap (d : Option Tmp) (t : TypeId) : Pg := match d with
  | some tt => mapKey TI t fun ki => .tok tt fun
    | .abs => .ret [.tok tt (.mlive ki.ty []), .tmp tt (.mp tt)]
    | _ => .fail
  | none => .fail
def pgLookup (d : Option Tmp) (t : TypeId) (m x : AV) : Pg := mapKey TI t fun ki => match m, x with
  | .mp g, .agg cs => match ki.ty.ofCells cs with
    | some k => .tok g fun
      | .mlive K l => match K.dec ki.ty with
        | some h => retv d (.bool ((h.down ▸ l : List ki.ty.den).any fun y => ki.ty.same k y))
        | none => .fail
      | _ => .fail
    | none => .fail
  | _, _ => .fail
def pgMapUpdate (t : TypeId) (m x v : AV) : Pg := mapKey TI t fun ki => match m, x, v with
  | .mp g, .agg cs, .bool true => match ki.ty.ofCells cs with
    | some k => .tok g fun
      | .mlive K l => match K.dec ki.ty with
        | some h => .chk (!(h.down ▸ l : List ki.ty.den).any fun y => ki.ty.same k y) (.ret [.tok g (.mlive ki.ty ((h.down ▸ l : List ki.ty.den) ++ [k]))])
        | none => .fail
      | _ => .fail
    | none => .fail
  | _, _, _ => .fail
def eqNil (d : Option Tmp) (op : BinOp) (b : Bool) : Pg := match op with
  | .eql => retv d (.bool b)
  | .neq => retv d (.bool (!b))
  | _ => .fail
def pg (o : Oper) : Pg :=
  match o.op with
  | .move x | .assign x => rdv x fun v => retv o.dst v
  | .pick c a b => rdv c fun c => rdv a fun a => rdv b fun b => pgPick o.dst c a b
  | .alloc e => match o.dst with
    | some tt => tinf TI e fun i => .box tt fun
      | none => .ret [.box tt i.zero, .tmp tt (.ptr tt 0)]
      | some _ => .fail
    | none => .fail
  | .box e x => bif imms o.pos then rdv x fun v => match v.isVal with
      | true => snaps v.cells [] fun vs ws => tinf TI e fun i => match vs.all isPlainCell, i.ty.ofCells vs with
        | true, some x => .ret (ws ++ wrd o.dst (.imm i.ty x))
        | _, _ => .fail
      | false => .fail
    else match o.dst with
    | some tt => rdv x fun v => match v.isVal with
      | true => .box tt fun
        | none => .ret [.box tt v.cells, .tmp tt (.ptr tt 0)]
        | some _ => .fail
      | false => .fail
    | none => .fail
  | .build t ps => rdvs (ps.toList.map (·.2)) fun vs => pgBuild TI o.dst t ((ps.toList.map (·.1)).zip vs)
  | .buildSlice t n ps => rdvs (ps.toList.map (·.2)) fun vs => pgBuildSlice TI o.dst t n ((ps.toList.map (·.1)).zip vs)
  | .load t p => rdv p fun p => pgLoad TI o.dst t p
  | .store t p v => match o.dst with
    | none => rdv p fun p => rdv v fun v => pgStore TI t p v
    | some _ => .fail
  | .binOp op t x y _ => rdv x fun x => rdv y fun y => match x with
    | .int _ _ => binv op x y fun v => retv o.dst v
    | .str _ => binv op x y fun v => retv o.dst v
    | .bool _ => tinf TI t fun i => match i.kn with
      | .bool => binv op x y fun v => retv o.dst v
      | _ => .fail
    | .nilsl => match y with
      | .nilsl => tinf TI t fun i => match isSlK i.kn with
        | true => eqNil o.dst op true
        | false => .fail
      | _ => .fail
    | .nsl _ _ => match y with
      | .nilsl => tinf TI t fun i => match isSlK i.kn with
        | true => eqNil o.dst op false
        | false => .fail
      | _ => .fail
    | .cpx a b => tinf TI t fun i => match i.kn with
      | .cpx => match y with
        | .cpx c d => cpxv op a b c d fun v => retv o.dst v
        | _ => .fail
      | _ => .fail
    | .flt a => tinf TI t fun i => match i.kn with
      | .flt => match y with
        | .flt b => fltv op a b fun v => retv o.dst v
        | _ => .fail
      | _ => .fail
    | .nilptr => tinf TI t fun i => match i.kn with
      | .ptr _ => match y with
        | .nilptr => eqNil o.dst op true
        | .parr _ _ _ _ _ => eqNil o.dst op false
        | _ => .fail
      | _ => .fail
    | .parr b off n e j => tinf TI t fun i => match i.kn with
      | .ptr et => match y with
        | .nilptr => eqNil o.dst op false
        | .parr b' off' _ _ j' => tinf TI et fun ei => match Nat.beq b b' && decide (0 < ei.size) with
          | true => eqNil o.dst op (decide (off + j = off' + j'))
          | false => .fail
        | _ => .fail
      | _ => .fail
    | .agg a => tinf TI t fun i => match i.eqok, y with
      | true, .agg b => match i.ty.ofCells a, i.ty.ofCells b with
        | some p, some q => match op with
          | .eql => retv o.dst (.bool (i.ty.same p q))
          | .neq => retv o.dst (.bool (!i.ty.same p q))
          | _ => .fail
        | _, _ => .fail
      | _, _ => .fail
    | _ => .fail
  | .unOp op _ x => rdv x fun x => unv op x fun v => retv o.dst v
  | .convert a b x => rdv x fun x => pgConvert TI o.dst a b x
  | .makeSlice t n c => rdv n fun n => rdv c fun c => pgMakeSlice TI o.dst t n c
  | .slice t x lo hi mx => rdv x fun x => rdvs (lo.toList ++ hi.toList ++ mx.toList) fun vs =>
    match lo, hi, mx, vs with
    | none, none, none, [] => pgSlice TI o.dst t x none none none
    | some _, none, none, [a] => bif sameName o.pos "slices.go:253" then pgView TI o.dst t x a else pgSlice TI o.dst t x (some a) none none
    | none, some _, none, [b] => pgSlice TI o.dst t x none (some b) none
    | some _, some _, none, [a, b] => pgSlice TI o.dst t x (some a) (some b) none
    | none, some _, some _, [b, m] => pgSlice TI o.dst t x none (some b) (some m)
    | some _, some _, some _, [a, b, m] => pgSlice TI o.dst t x (some a) (some b) (some m)
    | _, _, _, _ => .fail
  | .fieldAddr t p f => rdv p fun p => pgFieldAddr TI o.dst t p f
  | .field t x f => rdv x fun x => pgField TI o.dst t x f
  | .indexAddr t x i => match x with
    | .global _ => rdv x fun x => rdv i fun i => pgGar TI o.dst t x i
    | _ => rdv x fun x => rdv i fun i => pgIndexAddr TI o.dst t x i
  | .index t x i => rdv x fun x => rdv i fun i => tinf TI t fun ti => match ti.kn, x, i with
    | .str, .str s, .int _ n => .chk (decide (0 ≤ n)) (.chk (decide (n < s.length)) (retv o.dst (.int .u8 ((s.getD n.toNat 0).toNat : Int))))
    | _, _, _ => .fail
  | .extract x i => rdv x fun v => pgExtract o.dst v i
  | .nilCheck x => rdv x fun v => match v with
    | .ptr _ _ | .pim _ _ | .pel _ _ _ | .gar _ _ _ | .imm _ _ | .parr _ _ _ _ _ => retv o.dst v
    | _ => .fail
  | .call c => rdvs c.args.toList fun vs => pgCall TI o.dst c.callee vs c.argTypes.toList
  | .makeInterface t x => rdv x fun v => pgIface TI o.dst t v
  | .makeMap t none => pgMakeMap TI o.dst t
  | .lookup t x i false => rdv x fun x => rdv i fun i => pgLookup TI o.dst t x i
  | .mapUpdate t m x v => match o.dst with
    | none => rdv m fun m => rdv x fun x => rdv v fun v => pgMapUpdate TI t m x v
    | some _ => .fail
  | .makeFunc fn first captured => match fn, first.toList with
    | .func f, [] => rdvs captured.toList fun vs => capts vs [] [] fun vs ws bs => .chk (nodupB0 (bs.map (·.1))) (match pack vs with
      | some p => .ret (ws ++ (bs.map fun x => .box x.1 x.2) ++ wrd o.dst (.fnv f p.T p.x))
      | none => .fail)
    | .func f, [x] => match captured.toList with
      | [] => rdv x fun v => snap1 v [] fun v' ws => match v' with
        | .agg cs => match pack cs with
          | some p => .ret (ws ++ wrd o.dst (.fnv f (.st p.T) p.x))
          | none => .fail
        | _ => .fail
      | _ => .fail
    | _, _ => .fail
  | _ => .fail
end
end Go.Proofs.Ytjonpmckkmnemaa.Th
set_option linter.unusedVariables false
set_option linter.unusedSimpArgs false
namespace Go.Proofs.Ytjonpmckkmnemaa.Th
open Go
inductive X where
  | norm | exit (id : Nat) | goto (l : Nat) | ret
def pgG (TI : TEnv) (ops : List Oper) (o : Oper) : Pg :=
  match o.guard with
  | none => pg TI o
  | some (j, want) => match (ops[j]?).bind (·.dst) with
    | some t => .tmp t fun
      | .bool b => .ite (b == want) (pg TI o) (.ret (wrd o.dst (.tup [])))
      | .tup [] => .ret (wrd o.dst (.tup []))
      | _ => .fail
    | none => .fail
def evalG (TI : TEnv) (O : Orc) {R : Type} (ops : List Oper) (o : Oper) (s : S) (K : S → List Rs → List Wr → Option R) : Option R :=
  match o.guard with
  | none => (pg TI o).evalK O s [] (K s)
  | some (j, want) => match (ops[j]?).bind (·.dst) with
    | some t => match s.tmps t with
      | .bool b =>
        sel b
          (match want with
           | true => (pg TI o).evalK O (s.put (.tmp t (.bool true))) [.tmp t] (K (s.put (.tmp t (.bool true))))
           | false => K (s.put (.tmp t (.bool true))) [.tmp t] (wrd o.dst (.tup [])))
          (match want with
           | false => (pg TI o).evalK O (s.put (.tmp t (.bool false))) [.tmp t] (K (s.put (.tmp t (.bool false))))
           | true => K (s.put (.tmp t (.bool false))) [.tmp t] (wrd o.dst (.tup [])))
      | .tup [] => K s [.tmp t] (wrd o.dst (.tup []))
      | _ => none
    | none => none
def evalOps (TI : TEnv) (O : Orc) {R : Type} (ops : List Oper) : List Oper → S → (S → Option R) → Option R
  | [], s, K => K s
  | o :: rest, s, K => evalG TI O ops o s fun s' _ ws => evalOps TI O ops rest (s'.puts ws) K
def maskE (acc : List Nat) (m : Nat) (e : Edge) : Nat := match Region.binds .any e with
  | true => m ||| 2 ^ e.on ||| acc.getD e.on 0
  | false => m
def maskOf (o : Oper) (acc : List Nat) : Nat := o.after.toList.foldl (maskE acc) 0
def ancs : List Oper → List Nat → List Nat
  | [], acc => acc
  | o :: os, acc => ancs os (acc ++ [maskOf o acc])
def Rs.beq : Rs → Rs → Bool
  | .tmp a, .tmp b => Nat.beq a b
  | .box a, .box b => Nat.beq a b
  | .tok a, .tok b => Nat.beq a b
  | _, _ => false
def Rs.mem (r : Rs) : List Rs → Bool
  | [] => false
  | x :: xs => bif r.beq x then true else r.mem xs
def meets : List Rs → List Rs → Bool
  | [], _ => false
  | x :: xs, ys => bif x.mem ys then true else meets xs ys
structure Fp where
  rd : List Rs
  wr : List Rs
def Fp.apart (a b : Fp) : Bool := bif meets a.wr b.rd then false else bif meets a.wr b.wr then false else !meets b.wr a.rd
def apartAll (m : Nat) (f : Fp) : Nat → List Fp → Bool
  | _, [] => true
  | i, g :: gs => bif (bif Nat.testBit m i then true else g.apart f) then apartAll m f (i + 1) gs else false
def evalDraw (TI : TEnv) (O : Orc) {R : Type} (ops : List Oper) : List Oper → List Nat → List Fp → S → (S → Option R) → Option R
  | [], _, _, s, K => K s
  | o :: rest, ms, fs, s, K => evalG TI O ops o s fun s' rd ws =>
    match ms with
    | [] => none
    | m :: ms => bif apartAll m ⟨rd, ws.map Wr.rs⟩ 0 fs then evalDraw TI O ops rest ms (fs ++ [⟨rd, ws.map Wr.rs⟩]) (s'.puts ws) K else none
def edgeOK (i : Nat) (e : Edge) : Bool := match Region.binds .any e with
  | true => Nat.blt e.on i
  | false => true
def edgesBack : Nat → List Oper → Bool
  | _, [] => true
  | i, o :: os => bif o.after.toList.all (edgeOK i) then edgesBack (i + 1) os else false
def firstRegion : Code → Nat
  | .region id _ _ => id
  | .seq a _ => firstRegion a
  | .block _ b | .loop b | .scope b => firstRegion b
  | .cond _ a _ => firstRegion a
  | _ => 0
def findLoop (r : Nat) : Code → Option Code
  | .loop b => bif Nat.beq (firstRegion b) r then some b else findLoop r b
  | .seq a b => match findLoop r a with
    | some c => some c
    | none => findLoop r b
  | .block _ b | .scope b => findLoop r b
  | .cond _ a b => match findLoop r a with
    | some c => some c
    | none => findLoop r b
  | _ => none
def findScope (l : Nat) : Code → Option Code
  | .scope b => match findLabel b l with
    | some _ => some b
    | none => findScope l b
  | .seq a b => match findScope l a with
    | some c => some c
    | none => findScope l b
  | .block _ b | .loop b => findScope l b
  | .cond _ a b => match findScope l a with
    | some c => some c
    | none => findScope l b
  | _ => none
inductive Lk where
  | loop (r : Nat)
  | label (l : Nat)
def LOrc := (R : Type) → Lk → S → (X → S → Option R) → Option R
def run (TI : TEnv) (O : Orc) (L : LOrc) {R : Type} : Code → S → (X → S → Option R) → Option R
  | .skip, s, K => K .norm s
  | .label _, s, K => K .norm s
  | .ret, s, K => K .ret s
  | .exit id, s, K => K (.exit id) s
  | .goto l, s, K => K (.goto l) s
  | .seq a b, s, K => run TI O L a s fun
    | .norm, s' => run TI O L b s' K
    | x, s' => K x s'
  | .cond (.tmp t) a b, s, K => match s.tmps t with
    | .bool c => sel c (run TI O L a s K) (run TI O L b s K)
    | _ => none
  | .block id b, s, K => run TI O L b s fun
    | .exit id', s' => bif Nat.beq id' id then K .norm s' else K (.exit id') s'
    | x, s' => K x s'
  | .loop b, s, K => L R (.loop (firstRegion b)) s K
  | .scope b, s, K => run TI O L b s fun
    | .goto l, s' => match findLabel b l with
      | some _ => L R (.label l) s' K
      | none => K (.goto l) s'
    | x, s' => K x s'
  | .region _ ops draw, s, K => match draw with
    | false => evalOps TI O ops.toList ops.toList s (K .norm)
    | true => bif edgesBack 0 ops.toList then evalDraw TI O ops.toList ops.toList (ancs ops.toList []) [] s (K .norm) else none
  | _, _, _ => none
inductive Pos where
  | tmp (t : Nat)
  | cell (b j : Nat)
  | res (a : Nat)
  | seg (b j n : Nat)
def Pos.beq : Pos → Pos → Bool
  | .tmp a, .tmp b => Nat.beq a b
  | .cell a i, .cell b j => bif Nat.beq a b then Nat.beq i j else false
  | .res a, .res b => Nat.beq a b
  | .seg a i n, .seg b j m => bif Nat.beq a b then bif Nat.beq i j then Nat.beq n m else false else false
  | _, _ => false
def Pos.name : Pos → Nat
  | .tmp t => t
  | .cell b j => 2000000 + 1000 * b + j
  | .res a => 90000000 + a
  | .seg b j _ => 2000000 + 1000 * b + j
def derefC (s : S) : AV → AV
  | .ref h => match s.toks h with
    | .live true T l => .sl T l
    | _ => .undef
  | v => v
def aggOf (cs : List AV) : AV := match cs.all isPlainCell with
  | true => .agg cs
  | false => .undef
def Pos.get (s : S) : Pos → AV
  | .tmp t => s.tmps t
  | .cell b j => match s.boxes b with
    | some cs => cs.getD j .undef
    | none => .undef
  | .res a => match s.tmps a with
    | .ptr b 0 => match s.boxes b with
      | some cs => aggOf (cs.map (derefC s))
      | none => .undef
    | _ => .undef
  | .seg b j n => match s.boxes b with
    | some cs => aggOf ((cs.drop j).take n)
    | none => .undef
inductive MC where
  | val (T : Ty)
  | row (sh : Bool) (T : Ty)
  | ptr (b o : Nat)
  | parr (b off n : Nat) (e : Ty)
  | map (K : Ty)
  | lev (b o f : Nat)
  | nilp
structure Msk where
  items : List (Pos × MC)
  boxes : List (Nat × Nat)
def denL : List (Pos × MC) → Type
  | [] => Unit
  | (_, .val T) :: l => T.den × denL l
  | (_, .row _ T) :: l => List T.den × denL l
  | (_, .ptr _ _) :: l => denL l
  | (_, .parr _ _ _ _) :: l => Nat × denL l
  | (_, .map K) :: l => List K.den × denL l
  | (_, .lev _ _ _) :: l => denL l
  | (_, .nilp) :: l => denL l
abbrev Msk.den (m : Msk) : Type := denL m.items
def shareT (h : Nat) (s : S) : S := match s.toks h with
  | .live false T l => s.put (.tok h (.live true T l))
  | _ => s
def snapT (m : MC) (v : AV) (s : S) : S := match m with
  | .val _ => match v with
    | .ref h => shareT h s
    | _ => s
  | .row true _ => match v with
    | .ref h => shareT h s
    | _ => s
  | _ => s
def shareAll : List AV → S → S
  | [], s => s
  | v :: cs, s => match v with
    | .ref h => shareAll cs (shareT h s)
    | _ => shareAll cs s
def snapP (p : Pos) (m : MC) (s : S) : S := match p with
  | .res a => match s.tmps a with
    | .ptr b _ => match s.boxes b with
      | some cs => shareAll cs s
      | none => s
    | _ => s
  | .tmp t => snapT m (s.tmps t) s
  | .cell b j => snapT m (Pos.get s (.cell b j)) s
  | .seg _ _ _ => s
def snapL : List (Pos × MC) → S → S
  | [], s => s
  | (p, m) :: l, s => snapL l (snapP p m s)
def decV (s : S) (T : Ty) (v : AV) : Option T.den := match T.isSt with
  | true => match v with
    | .agg cs => T.ofCells cs
    | _ => none
  | false => match v with
    | .ref h => match s.toks h with
      | .live true T' l => T.ofCells [.sl T' l]
      | _ => none
    | v => bif isPlainCell v then T.ofCells [v] else none
def decR (s : S) (sh : Bool) (T : Ty) (v : AV) (used : List Nat) : Option (List T.den × List Nat) := match v with
  | .nilsl => some ([], used)
  | .ref h => match s.toks h with
    | .live sh' T' l => bif (bif sh' == sh then !used.any (Nat.beq h) else false) then match T'.dec T with
      | some e => some (e.down ▸ l, h :: used)
      | none => none
      else none
    | _ => none
  | _ => none
def decP (bs : List Nat) (b o : Nat) (v : AV) : Bool := match v with
  | .ptr b' o' => bif Nat.beq b' b then bif Nat.beq o' o then bs.any (Nat.beq b) else false else false
  | _ => false
def decA (bs : List Nat) (b off n : Nat) (e : Ty) (v : AV) : Option Nat := match v with
  | .parr b' off' n' e' i => bif Nat.beq b' b then bif Nat.beq off' off then bif Nat.beq n' n then bif bs.any (Nat.beq b) then match e'.dec e with
    | some _ => some i
    | none => none
    else none else none else none else none
  | _ => none
def decLv (bs : List Nat) (b o f : Nat) (v : AV) : Bool := match v with
  | .lev b' o' f' => bif Nat.beq b' b then bif Nat.beq o' o then bif Nat.beq f' f then bs.any (Nat.beq b) else false else false else false
  | _ => false
def isNp : AV → Bool
  | .nilptr => true
  | _ => false
def decM (s : S) (K : Ty) (v : AV) (used : List Nat) : Option (List K.den × List Nat) := match v with
  | .mp h => match s.toks h with
    | .mlive K' l => bif !used.any (Nat.beq h) then match K'.dec K with
      | some e => some (e.down ▸ l, h :: used)
      | none => none
      else none
    | _ => none
  | _ => none
def decL (s : S) (bs : List Nat) : (l : List (Pos × MC)) → List Nat → Option (denL l × List Nat)
  | [], used => some ((), used)
  | (p, .val T) :: l, used => match decV s T (p.get s) with
    | some x => match decL s bs l used with
      | some y => some ((x, y.1), y.2)
      | none => none
    | none => none
  | (p, .row sh T) :: l, used => match decR s sh T (p.get s) used with
    | some x => match decL s bs l x.2 with
      | some y => some ((x.1, y.1), y.2)
      | none => none
    | none => none
  | (p, .ptr b o) :: l, used => match decP bs b o (p.get s) with
    | true => decL s bs l used
    | false => none
  | (p, .parr b off n e) :: l, used => match decA bs b off n e (p.get s) with
    | some i => match decL s bs l used with
      | some y => some ((i, y.1), y.2)
      | none => none
    | none => none
  | (p, .map K) :: l, used => match decM s K (p.get s) used with
    | some x => match decL s bs l x.2 with
      | some y => some ((x.1, y.1), y.2)
      | none => none
    | none => none
  | (p, .lev b o f) :: l, used => match decLv bs b o f (p.get s) with
    | true => decL s bs l used
    | false => none
  | (p, .nilp) :: l, used => match isNp (p.get s) with
    | true => decL s bs l used
    | false => none
def boxesOK (s : S) : List (Nat × Nat) → Bool
  | [] => true
  | (b, n) :: l => bif (match s.boxes b with
    | some cs => bif Nat.beq cs.length n then !cs.any isFz else false
    | none => false) then boxesOK s l else false
def Msk.dec (m : Msk) (s : S) : Option m.den := match boxesOK s m.boxes with
  | true => match decL (snapL m.items s) (m.boxes.map (·.1)) m.items [] with
    | some y => some y.1
    | none => none
  | false => none
def avL : (l : List (Pos × MC)) → denL l → List (Pos × AV)
  | [], _ => []
  | (p, .val T) :: l, v => (p, T.av v.1) :: avL l v.2
  | (p, .row _ _) :: l, v => (p, .ref p.name) :: avL l v.2
  | (p, .ptr b o) :: l, v => (p, .ptr b o) :: avL l v
  | (p, .parr b off n e) :: l, v => (p, .parr b off n e v.1) :: avL l v.2
  | (p, .map _) :: l, v => (p, .mp p.name) :: avL l v.2
  | (p, .lev b o f) :: l, v => (p, .lev b o f) :: avL l v
  | (p, .nilp) :: l, v => (p, .nilptr) :: avL l v
def tkL : (l : List (Pos × MC)) → denL l → List (Nat × Tok)
  | [], _ => []
  | (_, .val _) :: l, v => tkL l v.2
  | (p, .row sh T) :: l, v => (p.name, .live sh T v.1) :: tkL l v.2
  | (_, .ptr _ _) :: l, v => tkL l v
  | (_, .parr _ _ _ _) :: l, v => tkL l v.2
  | (p, .map K) :: l, v => (p.name, .mlive K v.1) :: tkL l v.2
  | (_, .lev _ _ _) :: l, v => tkL l v
  | (_, .nilp) :: l, v => tkL l v
def tbl {α : Type} (d : α) : List (Nat × α) → Nat → α
  | [], _ => d
  | (t, v) :: rest, i => bif Nat.beq i t then v else tbl d rest i
def Pos.inSeg : Pos → Pos → Option Nat
  | .seg b j n, .cell b' i => bif Nat.beq b b' then bif Nat.ble j i then bif Nat.blt i (j + n) then some (i - j) else none else none else none
  | _, _ => none
def lookP : List (Pos × AV) → Pos → AV
  | [], _ => .undef
  | (q, v) :: r, p => bif q.beq p then v else match q.inSeg p with
    | some i => v.cells.getD i .undef
    | none => lookP r p
def Msk.enc (m : Msk) (v : m.den) : S where
  tmps := fun t => lookP (avL m.items v) (.tmp t)
  boxes := fun b => match tbl none (m.boxes.map fun x => (x.1, some x.2)) b with
    | some n => some ((List.range n).map fun j => lookP (avL m.items v) (.cell b j))
    | none => none
  toks := tbl .abs (tkL m.items v)
def nodupB : List Nat → Bool
  | [] => true
  | a :: l => !l.any (Nat.beq a) && nodupB l
def Msk.ok (m : Msk) : Bool := nodupB (m.items.map fun x => x.1.name)
def X.beq : X → X → Bool
  | .norm, .norm => true
  | .exit a, .exit b => Nat.beq a b
  | .goto a, .goto b => Nat.beq a b
  | .ret, .ret => true
  | _, _ => false
def denE : List (X × Msk) → Type
  | [] => Empty
  | [(_, m)] => m.den
  | (_, m) :: (y, m') :: l => m.den ⊕ denE ((y, m') :: l)
def esel {α β γ : Type} (e : α ⊕ β) (f : α → γ) (g : β → γ) : γ := match e with
  | .inl v => f v
  | .inr v => g v
def outE {R : Type} : (l : List (X × Msk)) → denE l → (X → S → Option R) → Option R
  | [], _, _ => none
  | [(x, m)], e, K => K x (m.enc e)
  | (x, m) :: (y, m') :: l, e, K => esel e (fun v => K x (m.enc v)) (fun e => outE ((y, m') :: l) e K)
def inE : (l : List (X × Msk)) → X → S → Option (denE l)
  | [], _, _ => none
  | [(x, m)], x', s => bif x.beq x' then m.dec s else none
  | (x, m) :: (y, m') :: l, x', s => bif x.beq x' then (match m.dec s with
      | some v => some (.inl v)
      | none => none)
    else match inE ((y, m') :: l) x' s with
      | some e => some (.inr e)
      | none => none
def obind {α β : Type} (x : Option α) (f : α → Option β) : Option β := match x with
  | some v => f v
  | none => none
def ocall {α β : Type} (x : Option α) (f : α → Option β) : Option β := obind x f
def link {R : Type} (m : Msk) (xs : List (X × Msk)) (f : m.den → Option (denE xs)) (s : S) (K : X → S → Option R) : Option R :=
  obind (m.dec s) fun v => ocall (f v) fun e => outE xs e K
def round (TI : TEnv) (O : Orc) (L : LOrc) (b : Code) (m : Msk) (xs : List (X × Msk)) (n : m.den → Option (denE xs)) (v : m.den) : Option (denE xs) :=
  run TI O L b (m.enc v) fun x s => match x with
    | .norm => obind (m.dec s) n
    | .exit i => inE xs (.exit i) s
    | .goto l => inE xs (.goto l) s
    | .ret => inE xs .ret s
def hop (TI : TEnv) (O : Orc) (L : LOrc) (b : Code) (ls xs : List (X × Msk)) (n : denE ls → Option (denE xs)) (rest : Code) (s : S) : Option (denE xs) :=
  run TI O L rest s fun x s => match x with
    | .goto l => match findLabel b l with
      | some _ => obind (inE ls (.goto l) s) n
      | none => inE xs (.goto l) s
    | .norm => inE xs .norm s
    | .exit i => inE xs (.exit i) s
    | .ret => inE xs .ret s
def pass (TI : TEnv) (O : Orc) (L : LOrc) (b : Code) (ls xs : List (X × Msk)) (n : denE ls → Option (denE xs)) (e : denE ls) : Option (denE xs) :=
  outE ls e fun x s => match x with
    | .goto l => match findLabel b l with
      | some rest => hop TI O L b ls xs n rest s
      | none => none
    | _ => none
def linkJ {R : Type} (ls xs : List (X × Msk)) (f : denE ls → Option (denE xs)) (l : Nat) (s : S) (K : X → S → Option R) : Option R :=
  obind (inE ls (.goto l) s) fun v => ocall (f v) fun e => outE xs e K
def start (args : List AV) : S := { tmps := fun i => args.getD i .undef, boxes := fun _ => none, toks := fun _ => .abs }
def endF (mo : Msk) (x : X) (s : S) : Option mo.den := match x with
  | .ret => mo.dec s
  | .norm => mo.dec s
  | _ => none
def runF (TI : TEnv) (O : Orc) (L : LOrc) (c : Code) (mi mo : Msk) (v : mi.den) : Option mo.den := run TI O L c (mi.enc v) (endF mo)
def outL : (l : List (Pos × MC)) → denL l → List AV
  | [], _ => []
  | (_, .val T) :: l, v => T.av v.1 :: outL l v.2
  | (_, .row _ T) :: l, v => .own T v.1 :: outL l v.2
  | (_, .ptr _ _) :: l, v => .undef :: outL l v
  | (_, .parr _ _ _ _) :: l, v => .undef :: outL l v.2
  | (_, .map _) :: l, v => .undef :: outL l v.2
  | (_, .lev _ _ _) :: l, v => .undef :: outL l v
  | (_, .nilp) :: l, v => .undef :: outL l v
def ansOf : List AV → AV
  | [v] => v
  | vs => .tup vs
def callF {R : Type} (mi mo : Msk) (f : mi.den → Option mo.den) (args : List AV) (K : AV → Option R) : Option R :=
  bif Nat.beq args.length mi.items.length then obind (mi.dec (start args)) fun v => ocall (f v) fun r => K (ansOf (outL mo.items r)) else none
def callN {R : Type} (T : Ty) (mo : Msk) (f : List T.den → Option mo.den) (args : List AV) (K : AV → Option R) : Option R := match args with
  | [.sl T' l] => match T'.dec T with
    | some h => ocall (f (h.down ▸ l)) fun r => K (ansOf (outL mo.items r))
    | none => none
  | [.nilsl] => ocall (f []) fun r => K (ansOf (outL mo.items r))
  | _ => none
def denA : List Msk → Type
  | [] => Empty
  | [m] => m.den
  | m :: m' :: l => m.den ⊕ denA (m' :: l)
def inA : (l : List Msk) → S → Option (denA l)
  | [], _ => none
  | [m], s => m.dec s
  | m :: m' :: l, s => match m.dec s with
    | some v => some (.inl v)
    | none => match inA (m' :: l) s with
      | some e => some (.inr e)
      | none => none
def endA (ms : List Msk) (x : X) (s : S) : Option (denA ms) := match x with
  | .ret => inA ms s
  | .norm => inA ms s
  | _ => none
def valA : (l : List Msk) → denA l → AV
  | [], _ => .undef
  | [m], v => ansOf (outL m.items v)
  | m :: m' :: l, e => match e with
    | .inl v => ansOf (outL m.items v)
    | .inr e => valA (m' :: l) e
def runA (TI : TEnv) (O : Orc) (L : LOrc) (c : Code) (mi : Msk) (ms : List Msk) (v : mi.den) : Option (denA ms) := run TI O L c (mi.enc v) (endA ms)
def lentName (j : Nat) : Nat := (Pos.cell lentBox j).name
def lentWrs : List AV → Nat → List Wr
  | [], _ => []
  | .own T l :: cs, j => .tok (lentName j) (.live false T l) :: lentWrs cs (j + 1)
  | _ :: cs, j => lentWrs cs (j + 1)
def lentCells : List AV → Nat → List AV
  | [], _ => []
  | .own _ _ :: cs, j => .ref (lentName j) :: lentCells cs (j + 1)
  | v :: cs, j => v :: lentCells cs (j + 1)
def lentBase (vs cs : List AV) : S := { tmps := fun i => vs.getD i .undef, boxes := fun b => bif Nat.beq b lentBox then some (blanks cs) else none, toks := fun _ => .abs }
def startL (vs cs : List AV) : S := ((lentBase vs cs).puts (lentWrs cs 0)).put (.box lentBox (lentCells cs 0))
def outM : (l : List (Pos × MC)) → denL l → List AV
  | [], _ => []
  | (_, .val T) :: l, v => T.av v.1 :: outM l v.2
  | (_, .row _ T) :: l, v => .own T v.1 :: outM l v.2
  | (_, .ptr b o) :: l, v => .ptr b o :: outM l v
  | (_, .parr b off n e) :: l, v => .parr b off n e v.1 :: outM l v.2
  | (_, .map _) :: l, v => .undef :: outM l v.2
  | (_, .lev _ _ _) :: l, v => .undef :: outM l v
  | (_, .nilp) :: l, v => .nilptr :: outM l v
def backOf (nr : Nat) (l : List AV) : AV := .back (ansOf (l.take nr)) ((l.drop nr).flatMap AV.cells)
def outB {R : Type} (nr : Nat) : (l : List Msk) → denA l → (AV → Option R) → Option R
  | [], _, _ => none
  | [m], v, K => K (backOf nr (outM m.items v))
  | m :: m' :: l, e, K => esel e (fun v => K (backOf nr (outM m.items v))) (fun e => outB nr (m' :: l) e K)
def valB (nr : Nat) : (l : List Msk) → denA l → AV
  | [], _ => .undef
  | [m], v => backOf nr (outM m.items v)
  | m :: m' :: l, e => match e with
    | .inl v => backOf nr (outM m.items v)
    | .inr e => valB nr (m' :: l) e
def splitLent : List AV → Option (List AV × List AV)
  | [] => none
  | [.lent cs] => some ([], cs)
  | v :: vs => match splitLent vs with
    | some (a, cs) => some (v :: a, cs)
    | none => none
def callB {R : Type} (mi : Msk) (na nr : Nat) (ms : List Msk) (f : mi.den → Option (denA ms)) (args : List AV) (K : AV → Option R) : Option R := match splitLent args with
  | some (vs, cs) => bif Nat.beq vs.length na then obind (mi.dec (startL vs cs)) fun v => ocall (f v) fun r => outB nr ms r K else none
  | none => none
end Go.Proofs.Ytjonpmckkmnemaa.Th
set_option linter.unusedVariables false
set_option linter.unusedSimpArgs false
namespace Go.Proofs.Ytjonpmckkmnemaa.Th
open Go
inductive RV where
  | av (v : AV) | bx (c : Option (List AV)) | tk (t : Tok)
def S.get (s : S) : Rs → RV
  | .tmp t => .av (s.tmps t)
  | .box b => .bx (s.boxes b)
  | .tok g => .tk (s.toks g)
def Wr.rv : Wr → RV
  | .tmp _ v => .av v
  | .box _ c => .bx (some c)
  | .tok _ c => .tk c
theorem S.ext_get {s s' : S} (h : ∀ r, s.get r = s'.get r) : s = s' := by
  cases s; cases s'
  congr 1
  · funext t; have := h (.tmp t); simpa [S.get] using this
  · funext t; have := h (.box t); simpa [S.get] using this
  · funext t; have := h (.tok t); simpa [S.get] using this
theorem beq_ne {i t : Nat} (h : i ≠ t) : Nat.beq i t = false := by
  cases e : Nat.beq i t with
  | false => rfl
  | true => exact absurd (Nat.eq_of_beq_eq_true e) h
theorem beq_self (i : Nat) : Nat.beq i i = true := Nat.beq_refl i
theorem upd_same {α : Type} (f : Nat → α) (t : Nat) (v : α) : upd f t v t = v := by simp [upd, beq_self]
theorem upd_ne {α : Type} (f : Nat → α) (t i : Nat) (v : α) (h : i ≠ t) : upd f t v i = f i := by simp [upd, beq_ne h]
theorem upd_self {α : Type} (f : Nat → α) (t : Nat) : upd f t (f t) = f := by
  funext i; by_cases h : i = t
  · subst h; exact upd_same _ _ _
  · exact upd_ne _ _ _ _ h
theorem S.get_put_same (s : S) (w : Wr) : (s.put w).get w.rs = w.rv := by
  cases w <;> simp [S.put, S.get, Wr.rs, Wr.rv, upd_same]
theorem S.get_put_ne (s : S) (w : Wr) (r : Rs) (h : r ≠ w.rs) : (s.put w).get r = s.get r := by
  cases w with
  | tmp t v => cases r with
    | tmp i => have : i ≠ t := fun e => h (by rw [e]; rfl)
               simp [S.put, S.get, upd_ne _ _ _ _ this]
    | _ => rfl
  | box t v => cases r with
    | box i => have : i ≠ t := fun e => h (by rw [e]; rfl)
               simp [S.put, S.get, upd_ne _ _ _ _ this]
    | _ => rfl
  | tok t v => cases r with
    | tok i => have : i ≠ t := fun e => h (by rw [e]; rfl)
               simp [S.put, S.get, upd_ne _ _ _ _ this]
    | _ => rfl
def look : List Wr → Rs → Option RV
  | [], _ => none
  | w :: ws, r => match look ws r with
    | some v => some v
    | none => if r = w.rs then some w.rv else none
theorem S.get_puts (ws : List Wr) (s : S) (r : Rs) : (s.puts ws).get r = (look ws r).getD (s.get r) := by
  induction ws generalizing s with
  | nil => rfl
  | cons w ws ih =>
    simp only [S.puts, ih, look]
    cases h : look ws r with
    | some v => rfl
    | none =>
      by_cases e : r = w.rs
      · subst e; simp [S.get_put_same]
      · simp [e, S.get_put_ne]
theorem look_none {ws : List Wr} {r : Rs} (h : r ∉ ws.map Wr.rs) : look ws r = none := by
  induction ws with
  | nil => rfl
  | cons w ws ih =>
    simp only [List.map_cons, List.mem_cons, not_or] at h
    simp [look, ih h.2, h.1]
theorem S.puts_append (s : S) (a b : List Wr) : s.puts (a ++ b) = (s.puts a).puts b := by
  induction a generalizing s with
  | nil => rfl
  | cons w a ih => simp [S.puts, ih]
def OrcOK (O : Orc) (C : FuncId → List AV → AV → Prop) : Prop :=
  ∀ (R : Type) (f : FuncId) (args : List AV) (K : AV → Option R) (r : R), O R f args K = some r → ∃ v, C f args v ∧ K v = some r
theorem Pg.Ev.mono {C : FuncId → List AV → AV → Prop} {Rd Rd' : Rs → Prop} {s : S} (hR : ∀ r, Rd r → Rd' r) : ∀ {p : Pg} {ws : List Wr}, p.Ev C Rd s ws → p.Ev C Rd' s ws := by
  intro p
  induction p with
  | ret w => exact fun h => h
  | fail => exact fun h => h
  | chk b k ih => exact fun h => ⟨h.1, ih h.2⟩
  | ite b k l ih1 ih2 => intro ws h; cases b <;> simp only [Pg.Ev] at h ⊢ <;> first | exact ih1 h | exact ih2 h
  | tmp t k ih => exact fun h => ⟨hR _ h.1, ih _ h.2⟩
  | box b k ih => exact fun h => ⟨hR _ h.1, ih _ h.2⟩
  | tok g k ih => exact fun h => ⟨hR _ h.1, ih _ h.2⟩
  | call f args k ih => exact fun h => let ⟨v, h1, h2⟩ := h; ⟨v, h1, ih v h2⟩
theorem Pg.Ev.congr {C : FuncId → List AV → AV → Prop} {Rd : Rs → Prop} {s s' : S} (hg : ∀ r, Rd r → s'.get r = s.get r) : ∀ {p : Pg} {ws : List Wr}, p.Ev C Rd s ws → p.Ev C Rd s' ws := by
  intro p
  induction p with
  | ret w => exact fun h => h
  | fail => exact fun h => h
  | chk b k ih => exact fun h => ⟨h.1, ih h.2⟩
  | ite b k l ih1 ih2 => intro ws h; cases b <;> simp only [Pg.Ev] at h ⊢ <;> first | exact ih1 h | exact ih2 h
  | tmp t k ih =>
    intro ws h
    have e : s'.tmps t = s.tmps t := by have := hg _ h.1; simpa [S.get] using this
    exact ⟨h.1, by rw [e]; exact ih _ h.2⟩
  | box b k ih =>
    intro ws h
    have e : s'.boxes b = s.boxes b := by have := hg _ h.1; simpa [S.get] using this
    exact ⟨h.1, by rw [e]; exact ih _ h.2⟩
  | tok g k ih =>
    intro ws h
    have e : s'.toks g = s.toks g := by have := hg _ h.1; simpa [S.get] using this
    exact ⟨h.1, by rw [e]; exact ih _ h.2⟩
  | call f args k ih => exact fun h => let ⟨v, h1, h2⟩ := h; ⟨v, h1, ih v h2⟩
theorem Pg.evalK_ev {O : Orc} {C : FuncId → List AV → AV → Prop} (hO : OrcOK O C) {R : Type} {s : S} {r : R} :
    ∀ (p : Pg) (rs : List Rs) (K : List Rs → List Wr → Option R), p.evalK O s rs K = some r →
      ∃ rs' ws, (∀ x ∈ rs, x ∈ rs') ∧ p.Ev C (· ∈ rs') s ws ∧ K rs' ws = some r := by
  intro p
  induction p with
  | ret w => exact fun rs K h => ⟨rs, w, fun _ h => h, rfl, h⟩
  | fail => exact fun rs K h => by cases h
  | chk b k ih =>
    intro rs K h
    cases b with
    | false => cases h
    | true => let ⟨rs', ws, a, b, c⟩ := ih rs K h; exact ⟨rs', ws, a, ⟨rfl, b⟩, c⟩
  | ite b k l ih1 ih2 =>
    intro rs K h
    cases b with
    | false => exact ih2 rs K h
    | true => exact ih1 rs K h
  | tmp t k ih =>
    intro rs K h
    let ⟨rs', ws, a, b, c⟩ := ih _ _ K h
    exact ⟨rs', ws, fun x hx => a x (.tail _ hx), ⟨a _ (.head _), b⟩, c⟩
  | box t k ih =>
    intro rs K h
    let ⟨rs', ws, a, b, c⟩ := ih _ _ K h
    exact ⟨rs', ws, fun x hx => a x (.tail _ hx), ⟨a _ (.head _), b⟩, c⟩
  | tok t k ih =>
    intro rs K h
    let ⟨rs', ws, a, b, c⟩ := ih _ _ K h
    exact ⟨rs', ws, fun x hx => a x (.tail _ hx), ⟨a _ (.head _), b⟩, c⟩
  | call f args k ih =>
    intro rs K h
    obtain ⟨v, hv, h⟩ := hO _ _ _ _ _ h
    let ⟨rs', ws, a, b, c⟩ := ih v rs K h
    exact ⟨rs', ws, a, ⟨v, hv, b⟩, c⟩
theorem S.put_self (s : S) (t : Nat) (v : AV) (h : s.tmps t = v) : s.put (.tmp t v) = s := by
  cases s; simp only [S.put] at h ⊢; congr 1; rw [← h]; exact upd_self _ _
theorem evalG_ev {TI : TEnv} {O : Orc} {C : FuncId → List AV → AV → Prop} (hO : OrcOK O C) {R : Type} {ops : List Oper} {o : Oper} {s : S} {K : S → List Rs → List Wr → Option R} {r : R}
    (h : evalG TI O ops o s K = some r) : ∃ rs ws, (pgG TI ops o).Ev C (· ∈ rs) s ws ∧ K s rs ws = some r := by
  unfold evalG at h
  unfold pgG
  cases hg : o.guard with
  | none =>
    rw [hg] at h; simp only [] at h ⊢
    obtain ⟨rs, ws, _, h1, h2⟩ := Pg.evalK_ev hO _ _ _ h
    exact ⟨rs, ws, h1, h2⟩
  | some jw =>
    obtain ⟨j, want⟩ := jw
    rw [hg] at h; simp only [] at h ⊢
    cases ht : (ops[j]?).bind (·.dst) with
    | none => rw [ht] at h; cases h
    | some t =>
      rw [ht] at h; simp only [] at h ⊢
      cases hb : s.tmps t with
      | bool b =>
        rw [hb] at h; simp only [] at h
        cases b with
        | true =>
          rw [S.put_self s t _ hb] at h
          cases want with
          | true =>
            simp only [sel, cond_true] at h
            obtain ⟨rs, ws, h0, h1, h2⟩ := Pg.evalK_ev hO _ _ _ h
            exact ⟨rs, ws, ⟨h0 _ (.head _), by rw [hb]; simpa [Pg.Ev] using h1⟩, h2⟩
          | false =>
            simp only [sel, cond_true] at h
            exact ⟨_, _, ⟨.head _, by rw [hb]; simp [Pg.Ev]⟩, h⟩
        | false =>
          rw [S.put_self s t _ hb] at h
          cases want with
          | true =>
            simp only [sel, cond_false] at h
            exact ⟨_, _, ⟨.head _, by rw [hb]; simp [Pg.Ev]⟩, h⟩
          | false =>
            simp only [sel, cond_false] at h
            obtain ⟨rs, ws, h0, h1, h2⟩ := Pg.evalK_ev hO _ _ _ h
            exact ⟨rs, ws, ⟨h0 _ (.head _), by rw [hb]; simpa [Pg.Ev] using h1⟩, h2⟩
      | tup l =>
        rw [hb] at h
        cases l with
        | nil => exact ⟨_, _, ⟨.head _, by rw [hb]; rfl⟩, h⟩
        | cons _ _ => cases h
      | _ => rw [hb] at h; cases h
def OpsEv (C : FuncId → List AV → AV → Prop) (TI : TEnv) (ops : List Oper) : List Oper → S → S → Prop
  | [], s, s' => s' = s
  | o :: rest, s, s' => ∃ ws, (pgG TI ops o).Ev C (fun _ => True) s ws ∧ OpsEv C TI ops rest (s.puts ws) s'
theorem evalOps_ev {TI : TEnv} {O : Orc} {C : FuncId → List AV → AV → Prop} (hO : OrcOK O C) {R : Type} {ops : List Oper} {r : R} {K : S → Option R} :
    ∀ (l : List Oper) (s : S), evalOps TI O ops l s K = some r → ∃ s', OpsEv C TI ops l s s' ∧ K s' = some r := by
  intro l
  induction l with
  | nil => exact fun s h => ⟨s, rfl, h⟩
  | cons o l ih =>
    intro s h
    obtain ⟨rs, ws, h1, h2⟩ := evalG_ev hO h
    obtain ⟨s', h3, h4⟩ := ih _ h2
    exact ⟨s', ⟨ws, h1.mono (fun _ _ => trivial), h3⟩, h4⟩
structure Stp where
  s : S
  rd : List Rs
  ws : List Wr
def TxtEv (C : FuncId → List AV → AV → Prop) (TI : TEnv) (ops : List Oper) : List Oper → S → List Stp → S → Prop
  | [], s, st, s' => st = [] ∧ s' = s
  | o :: rest, s, st, s' => ∃ x st', st = x :: st' ∧ x.s = s ∧ (pgG TI ops o).Ev C (· ∈ x.rd) s x.ws ∧ TxtEv C TI ops rest (s.puts x.ws) st' s'
def Stp.fp (x : Stp) : Fp := ⟨x.rd, x.ws.map Wr.rs⟩
theorem evalDraw_ev {TI : TEnv} {O : Orc} {C : FuncId → List AV → AV → Prop} (hO : OrcOK O C) {R : Type} {ops : List Oper} {r : R} {K : S → Option R} :
    ∀ (l : List Oper) (ms : List Nat) (fs : List Fp) (s : S), evalDraw TI O ops l ms fs s K = some r →
      ∃ st s', TxtEv C TI ops l s st s' ∧ K s' = some r ∧
        ∀ i x, st[i]? = some x → ∃ m, ms[i]? = some m ∧ apartAll m x.fp 0 (fs ++ (st.take i).map Stp.fp) = true := by
  intro l
  induction l with
  | nil => exact fun ms fs s h => ⟨[], s, ⟨rfl, rfl⟩, h, fun i x hx => by simp at hx⟩
  | cons o l ih =>
    intro ms fs s h
    obtain ⟨rs, ws, h1, h2⟩ := evalG_ev hO h
    cases ms with
    | nil => cases h2
    | cons m ms =>
      simp only [] at h2
      cases hap : apartAll m ⟨rs, ws.map Wr.rs⟩ 0 fs with
      | false => rw [hap] at h2; cases h2
      | true =>
        rw [hap] at h2; simp only [cond_true] at h2
        obtain ⟨st, s', h3, h4, h5⟩ := ih ms _ _ h2
        refine ⟨⟨s, rs, ws⟩ :: st, s', ⟨_, st, rfl, rfl, h1, h3⟩, h4, ?_⟩
        intro i x hx
        cases i with
        | zero =>
          simp at hx; subst hx
          exact ⟨m, rfl, by simpa [Stp.fp] using hap⟩
        | succ i =>
          simp at hx
          obtain ⟨m', hm', ha⟩ := h5 i x hx
          refine ⟨m', by simpa using hm', ?_⟩
          simpa [Stp.fp] using ha
end Go.Proofs.Ytjonpmckkmnemaa.Th
set_option linter.unusedVariables false
set_option linter.unusedSimpArgs false
namespace Go.Proofs.Ytjonpmckkmnemaa.Th
open Go
def mix : List Stp → (Nat → Bool) → Nat → S → S
  | [], _, _, s => s
  | x :: xs, L, i, s => mix xs L (i + 1) (bif L i then s.puts x.ws else s)
def lookM : List Stp → (Nat → Bool) → Nat → Rs → Option RV
  | [], _, _, _ => none
  | x :: xs, L, i, r => match lookM xs L (i + 1) r with
    | some v => some v
    | none => bif L i then look x.ws r else none
theorem mix_get (xs : List Stp) (L : Nat → Bool) (r : Rs) : ∀ (i : Nat) (s : S), (mix xs L i s).get r = (lookM xs L i r).getD (s.get r) := by
  induction xs with
  | nil => intro i s; rfl
  | cons x xs ih =>
    intro i s
    simp only [mix, ih, lookM]
    cases lookM xs L (i + 1) r with
    | some v => rfl
    | none => cases L i <;> simp [S.get_puts]
theorem lookM_append (a b : List Stp) (L : Nat → Bool) (r : Rs) : ∀ i, lookM (a ++ b) L i r = match lookM b L (i + a.length) r with | some v => some v | none => lookM a L i r := by
  induction a with
  | nil => intro i; simp only [List.nil_append, List.length_nil, Nat.add_zero]; cases lookM b L i r <;> rfl
  | cons x a ih =>
    intro i
    simp only [List.cons_append, lookM, ih (i + 1), List.length_cons]
    rw [show i + 1 + a.length = i + (a.length + 1) from by omega]
    cases lookM b L (i + (a.length + 1)) r <;> rfl
theorem lookM_congr (a : List Stp) (L L' : Nat → Bool) (r : Rs) : ∀ i, (∀ j x, a[j]? = some x → L (i + j) ≠ L' (i + j) → look x.ws r = none) → lookM a L i r = lookM a L' i r := by
  induction a with
  | nil => intro i _; rfl
  | cons x a ih =>
    intro i h
    simp only [lookM]
    rw [ih (i + 1) (fun j y hy hne => h (j + 1) y (by simpa using hy) (by rw [show i + (j + 1) = i + 1 + j from by omega]; exact hne))]
    cases lookM a L' (i + 1) r with
    | some v => rfl
    | none =>
      by_cases e : L i = L' i
      · rw [e]
      · have := h 0 x (by simp) (by simpa using e)
        rw [this]; cases L i <;> cases L' i <;> rfl
theorem lookM_none (a : List Stp) (L : Nat → Bool) (r : Rs) : ∀ i, (∀ j x, a[j]? = some x → L (i + j) = true → look x.ws r = none) → lookM a L i r = none := by
  induction a with
  | nil => intro i _; rfl
  | cons x a ih =>
    intro i h
    simp only [lookM]
    rw [ih (i + 1) (fun j y hy hl => h (j + 1) y (by simpa using hy) (by rw [show i + (j + 1) = i + 1 + j from by omega]; exact hl))]
    simp only []
    cases e : L i with
    | false => rfl
    | true => exact h 0 x (by simp) (by simpa using e)
theorem txt_state {C : FuncId → List AV → AV → Prop} {TI : TEnv} {ops : List Oper} : ∀ (l : List Oper) (s : S) (st : List Stp) (s' : S), TxtEv C TI ops l s st s' →
    st.length = l.length ∧ s' = mix st (fun _ => true) 0 s ∧ ∀ (i : Nat) (x : Stp), st[i]? = some x → x.s = mix (st.take i) (fun _ => true) 0 s ∧ ∃ o, l[i]? = some o ∧ (pgG TI ops o).Ev C (· ∈ x.rd) x.s x.ws := by
  have shift : ∀ (xs : List Stp) (i j : Nat) (s : S), mix xs (fun _ => true) i s = mix xs (fun _ => true) j s := by
    intro xs; induction xs with
    | nil => intros; rfl
    | cons x xs ih => intro i j s; simp only [mix]; exact ih _ _ _
  intro l
  induction l with
  | nil =>
    rintro s st s' ⟨rfl, rfl⟩
    exact ⟨rfl, rfl, fun i x hx => by simp at hx⟩
  | cons o l ih =>
    rintro s st s' ⟨x, st', rfl, hxs, hev, hrest⟩
    obtain ⟨h1, h2, h3⟩ := ih _ _ _ hrest
    refine ⟨by simp [h1], ?_, ?_⟩
    · rw [h2]; simp only [mix, cond_true]; exact shift _ _ _ _
    · intro i y hy
      cases i with
      | zero => simp at hy; subst hy; exact ⟨hxs, o, rfl, by rw [hxs]; exact hev⟩
      | succ i =>
        simp at hy
        obtain ⟨ha, o', ho', hb⟩ := h3 i y hy
        refine ⟨?_, o', by simpa using ho', hb⟩
        rw [ha]; simp only [List.take_succ_cons, mix, cond_true]; exact shift _ _ _ _
theorem Rs.beq_iff {a b : Rs} : a.beq b = true ↔ a = b := by
  cases a <;> cases b <;> simp [Rs.beq]
theorem Rs.mem_iff {r : Rs} {l : List Rs} : r.mem l = true ↔ r ∈ l := by
  induction l with
  | nil => simp [Rs.mem]
  | cons x l ih =>
    simp only [Rs.mem, List.mem_cons]
    cases h : r.beq x with
    | true => simp [Rs.beq_iff.1 h]
    | false => have : r ≠ x := fun e => by rw [Rs.beq_iff.2 e] at h; cases h
               simp [ih, this]
theorem meets_false {a b : List Rs} (h : meets a b = false) : ∀ r ∈ a, r ∉ b := by
  induction a with
  | nil => intro r hr; cases hr
  | cons x a ih =>
    simp only [meets] at h
    cases hm : x.mem b with
    | true => rw [hm] at h; cases h
    | false =>
      rw [hm] at h
      intro r hr
      cases hr with
      | head => exact fun hb => by rw [Rs.mem_iff.2 hb] at hm; cases hm
      | tail _ hr => exact ih h r hr
structure Apart (a b : Stp) : Prop where
  wr : ∀ r ∈ a.ws.map Wr.rs, r ∉ b.rd
  ww : ∀ r ∈ a.ws.map Wr.rs, r ∉ b.ws.map Wr.rs
  rw : ∀ r ∈ b.ws.map Wr.rs, r ∉ a.rd
theorem apart_of {a b : Stp} (h : a.fp.apart b.fp = true) : Apart a b := by
  unfold Fp.apart at h
  cases h1 : meets a.fp.wr b.fp.rd with
  | true => rw [h1] at h; cases h
  | false =>
    cases h2 : meets a.fp.wr b.fp.wr with
    | true => rw [h1, h2] at h; cases h
    | false =>
      rw [h1, h2] at h
      have h3 : meets b.fp.wr a.fp.rd = false := by simpa using h
      exact ⟨meets_false h1, meets_false h2, meets_false h3⟩
theorem apartAll_spec {m : Nat} {f : Fp} : ∀ (gs : List Fp) (k : Nat), apartAll m f k gs = true → ∀ (i : Nat) (g : Fp), gs[i]? = some g → Nat.testBit m (k + i) = true ∨ g.apart f = true := by
  intro gs
  induction gs with
  | nil => intro k _ i g hg; simp at hg
  | cons x gs ih =>
    intro k h i g hg
    simp only [apartAll] at h
    cases hc : (bif Nat.testBit m k then true else x.apart f) with
    | false => rw [hc] at h; cases h
    | true =>
      rw [hc] at h; simp only [cond_true] at h
      cases i with
      | zero =>
        simp at hg; subst hg
        cases hb : Nat.testBit m k with
        | true => exact .inl rfl
        | false => rw [hb] at hc; exact .inr (by simpa using hc)
      | succ i =>
        simp at hg
        have := ih (k + 1) h i g hg
        rwa [show k + (i + 1) = k + 1 + i from by omega]
theorem foldMask (acc : List Nat) (es : List Edge) : ∀ (m i : Nat),
    Nat.testBit (es.foldl (maskE acc) m) i = true →
      Nat.testBit m i = true ∨ ∃ e ∈ es, Region.binds .any e = true ∧ (e.on = i ∨ Nat.testBit (acc.getD e.on 0) i = true) := by
  induction es with
  | nil => intro m i h; exact .inl h
  | cons e es ih =>
    intro m i h
    rw [List.foldl_cons] at h
    rcases ih _ _ h with h | ⟨e', he', hb, hr⟩
    · cases hb : Region.binds .any e with
      | false => rw [maskE, hb] at h; exact .inl h
      | true =>
        rw [maskE, hb] at h
        simp only [Nat.testBit_or, Bool.or_eq_true] at h
        rcases h with (h | h) | h
        · exact .inl h
        · refine .inr ⟨e, .head _, hb, .inl ?_⟩
          rw [Nat.testBit_two_pow] at h; simpa using h
        · exact .inr ⟨e, .head _, hb, .inr h⟩
    · exact .inr ⟨e', .tail _ he', hb, hr⟩
theorem ancs_get (os : List Oper) : ∀ (acc : List Nat), (∀ (i : Nat) (m : Nat), acc[i]? = some m → (ancs os acc)[i]? = some m) ∧
    ∀ (j : Nat) (o : Oper), os[j]? = some o → (ancs os acc)[acc.length + j]? = some (maskOf o ((ancs os acc).take (acc.length + j))) := by
  induction os with
  | nil => intro acc; exact ⟨fun i m h => h, fun j o h => by simp at h⟩
  | cons x os ih =>
    intro acc
    obtain ⟨h1, h2⟩ := ih (acc ++ [maskOf x acc])
    constructor
    · intro i m h
      exact h1 i m (by rw [List.getElem?_append_left (List.getElem?_eq_some_iff.1 h).1]; exact h)
    · intro j o h
      simp only [ancs]
      cases j with
      | zero =>
        simp at h; subst h
        have := h1 acc.length (maskOf x acc) (by simp)
        rw [Nat.add_zero, this]
        congr 2
        have hp : ∀ i, i < acc.length → (ancs os (acc ++ [maskOf x acc]))[i]? = acc[i]? := by
          intro i hi
          rw [h1 i acc[i] (by rw [List.getElem?_append_left hi]; exact List.getElem?_eq_getElem hi)]
          exact (List.getElem?_eq_getElem hi).symm
        refine List.ext_getElem? fun i => ?_
        rw [List.getElem?_take]
        split
        · rename_i hi; exact (hp i hi).symm
        · rename_i hi; exact List.getElem?_eq_none (by omega)
      | succ j =>
        simp at h
        have := h2 j o h
        simp only [List.length_append, List.length_cons, List.length_nil] at this
        rwa [show acc.length + (0 + 1) + j = acc.length + (j + 1) from by omega] at this
section
variable {C : FuncId → List AV → AV → Prop} {TI : TEnv} {ops : Array Oper} {st : List Stp} {s s' : S}
structure Drawn (C : FuncId → List AV → AV → Prop) (TI : TEnv) (ops : Array Oper) (s : S) (st : List Stp) (s' : S) : Prop where
  len : st.length = ops.size
  fin : s' = mix st (fun _ => true) 0 s
  at_ : ∀ (i : Nat) (x : Stp), st[i]? = some x → x.s = mix (st.take i) (fun _ => true) 0 s ∧ ∃ o, ops[i]? = some o ∧ (pgG TI ops.toList o).Ev C (· ∈ x.rd) x.s x.ws
  apart : ∀ (i j : Nat) (x y : Stp), i < j → st[i]? = some x → st[j]? = some y → Nat.testBit ((ancs ops.toList []).getD j 0) i = true ∨ Apart x y
  back : ∀ (i : Nat) (o : Oper) (e : Edge), ops[i]? = some o → e ∈ o.after → Region.binds .any e = true → e.on < i
theorem edgesBack_spec (os : List Oper) : ∀ (k : Nat), edgesBack k os = true → ∀ (i : Nat) (o : Oper) (e : Edge), os[i]? = some o → e ∈ o.after → Region.binds .any e = true → e.on < k + i := by
  induction os with
  | nil => intro k _ i o e h; simp at h
  | cons x os ih =>
    intro k h i o e ho he hb
    simp only [edgesBack] at h
    cases hc : x.after.toList.all (edgeOK k) with
    | false => rw [hc] at h; cases h
    | true =>
      rw [hc] at h; simp only [cond_true] at h
      cases i with
      | zero =>
        simp at ho; subst ho
        have := List.all_eq_true.1 hc e (Array.mem_toList_iff.2 he)
        rw [edgeOK, hb] at this
        have := (Nat.blt_eq ▸ this : e.on < k)
        omega
      | succ i =>
        simp at ho
        have := ih (k + 1) h i o e ho he hb
        omega
theorem drawn_of {R : Type} {O : Orc} (hO : OrcOK O C) {K : S → Option R} {r : R} (hb : edgesBack 0 ops.toList = true)
    (h : evalDraw TI O ops.toList ops.toList (ancs ops.toList []) [] s K = some r) : ∃ st s', Drawn C TI ops s st s' ∧ K s' = some r := by
  obtain ⟨st, s', h1, h2, h3⟩ := evalDraw_ev hO _ _ _ _ h
  obtain ⟨a, b, c⟩ := txt_state _ _ _ _ h1
  refine ⟨st, s', ⟨by simpa using a, b, ?_, ?_, ?_⟩, h2⟩
  · intro i x hx
    obtain ⟨p, o, q, r⟩ := c i x hx
    exact ⟨p, o, by simpa using q, r⟩
  · intro i j x y hij hx hy
    obtain ⟨m, hm, ha⟩ := h3 j y hy
    have hlen : i < st.length := (List.getElem?_eq_some_iff.1 hx).1
    have := apartAll_spec _ 0 ha i x.fp (by simp [List.getElem?_take, hij, hx])
    rw [Nat.zero_add] at this
    have e : (ancs ops.toList []).getD j 0 = m := by simp [List.getD, hm]
    rw [e]
    exact this.imp id apart_of
  · intro i o e ho he hbd
    have := edgesBack_spec _ 0 hb i o e (by simpa using ho) he hbd
    omega
def Closed (ops : Array Oper) (L : Nat → Bool) : Prop := ∀ (j : Nat) (o : Oper), ops[j]? = some o → L j = true → ∀ e ∈ o.after, Region.binds .any e = true → L e.on = true
theorem anc_in {L : Nat → Bool} (hc : Closed ops L) (hback : ∀ (i : Nat) (o : Oper) (e : Edge), ops[i]? = some o → e ∈ o.after → Region.binds .any e = true → e.on < i) :
    ∀ (j : Nat) (o : Oper), ops[j]? = some o → (∀ e ∈ o.after, Region.binds .any e = true → L e.on = true) → ∀ i, Nat.testBit ((ancs ops.toList []).getD j 0) i = true → L i = true := by
  intro j
  induction j using Nat.strongRecOn with
  | _ j ih =>
    intro o ho hd i hi
    have hj := (ancs_get ops.toList []).2 j o (by simpa using ho)
    simp only [List.length_nil, Nat.zero_add] at hj
    rw [List.getD, hj, Option.getD_some] at hi
    unfold maskOf at hi
    rcases foldMask _ _ _ _ hi with h | ⟨e, he, hb, hr⟩
    · simp at h
    · have he' : e ∈ o.after := Array.mem_toList_iff.1 he
      have hlt := hback j o e ho he' hb
      have hL := hd e he' hb
      rcases hr with rfl | hr
      · exact hL
      · have hsz : j < ops.size := (Array.getElem?_eq_some_iff.1 ho).1
        have hoe : ops[e.on]? = some ops[e.on] := by simp [show e.on < ops.size by omega]
        refine ih e.on hlt _ hoe (fun e2 h2 hb2 => hc e.on _ hoe hL e2 h2 hb2) i ?_
        rw [List.getD, List.getElem?_take, if_pos hlt] at hr
        exact hr
theorem Drawn.reads (D : Drawn C TI ops s st s') {L : Nat → Bool} (hc : Closed ops L) {j : Nat} {o : Oper} {x : Stp} (ho : ops[j]? = some o) (hx : st[j]? = some x)
    (hd : ∀ e ∈ o.after, Region.binds .any e = true → L e.on = true) (hn : L j = false) (r : Rs) (hr : r ∈ x.rd) : (mix st L 0 s).get r = x.s.get r := by
  have hj : j < st.length := (List.getElem?_eq_some_iff.1 hx).1
  have hsplit : st = st.take j ++ st.drop j := (List.take_append_drop j st).symm
  rw [(D.at_ j x hx).1, mix_get, mix_get]
  congr 1
  rw [hsplit, lookM_append]
  have hb : lookM (st.drop j) L (0 + (st.take j).length) r = none := by
    refine lookM_none _ _ _ _ fun i y hy hl => ?_
    have hlen : (st.take j).length = j := by simp; omega
    rw [hlen] at hl
    simp only [List.getElem?_drop] at hy
    have hne : i ≠ 0 := by intro e; subst e; simp at hl; rw [hl] at hn; cases hn
    rcases D.apart j (j + i) x y (by omega) hx hy with h | h
    · have hyo : ∃ oy, ops[j + i]? = some oy := by obtain ⟨_, oy, hoy, _⟩ := D.at_ _ _ hy; exact ⟨oy, hoy⟩
      obtain ⟨oy, hoy⟩ := hyo
      have := anc_in hc D.back (j + i) oy hoy (fun e he hb => hc _ _ hoy (by simpa using hl) e he hb) j h
      rw [this] at hn; cases hn
    · exact look_none (fun hm => h.rw r hm hr)
  rw [hb]; simp only []
  rw [List.take_append_drop]
  refine lookM_congr _ _ _ _ _ fun i y hy hne => ?_
  simp only [Nat.zero_add] at hne
  have hi : i < j := by have := (List.getElem?_eq_some_iff.1 hy).1; simp at this; omega
  rw [List.getElem?_take, if_pos hi] at hy
  rcases D.apart i j y x hi hy hx with h | h
  · have := anc_in hc D.back j o ho hd i h
    rw [this] at hne; exact absurd rfl hne
  · exact look_none (fun hm => h.wr r hm hr)
theorem Drawn.writes (D : Drawn C TI ops s st s') {L L' : Nat → Bool} (hc : Closed ops L) {j : Nat} {o : Oper} {x : Stp} (ho : ops[j]? = some o) (hx : st[j]? = some x)
    (hn : L j = false) (hL' : ∀ i, L' i = (if i = j then true else L i)) : mix st L' 0 s = (mix st L 0 s).puts x.ws := by
  have hj : j < st.length := (List.getElem?_eq_some_iff.1 hx).1
  have hst : st = st.take j ++ (x :: st.drop (j + 1)) := by
    conv => lhs; rw [← List.take_append_drop j st]
    congr 1
    rw [List.drop_eq_getElem_cons hj]
    congr 1
    exact (List.getElem?_eq_some_iff.1 hx).2
  have hlen : (st.take j).length = j := by simp; omega
  apply S.ext_get
  intro r
  rw [mix_get, S.get_puts, mix_get]
  have hrest : lookM (st.drop (j + 1)) L' (j + 1) r = lookM (st.drop (j + 1)) L (j + 1) r := by
    refine lookM_congr _ _ _ _ _ fun i y hy hne => ?_
    exact absurd (by rw [hL', if_neg (by omega)]) hne
  have hfirst : lookM (st.take j) L' 0 r = lookM (st.take j) L 0 r := by
    refine lookM_congr _ _ _ _ _ fun i y hy hne => ?_
    have hi : i < j := by have := (List.getElem?_eq_some_iff.1 hy).1; simp at this; omega
    exact absurd (by rw [hL', if_neg (by omega)]) hne
  rw [hst, lookM_append, lookM_append, hlen]
  simp only [lookM, Nat.zero_add, hrest, hfirst, hn, cond_false]
  rw [hL' j, if_pos rfl, cond_true]
  cases hw : look x.ws r with
  | none => cases lookM (st.drop (j + 1)) L (j + 1) r <;> simp
  | some v =>
    have hmem : r ∈ x.ws.map Wr.rs := by
      by_cases e : r ∈ x.ws.map Wr.rs
      · exact e
      · rw [look_none e] at hw; cases hw
    have : lookM (st.drop (j + 1)) L (j + 1) r = none := by
      refine lookM_none _ _ _ _ fun i y hy hl => ?_
      simp only [List.getElem?_drop] at hy
      rcases D.apart j (j + 1 + i) x y (by omega) hx hy with h | h
      · obtain ⟨_, oy, hoy, _⟩ := D.at_ _ _ hy
        have := anc_in hc D.back (j + 1 + i) oy hoy (fun e he hb => hc _ _ hoy hl e he hb) j h
        rw [this] at hn; cases hn
      · exact look_none (h.ww r hmem)
    rw [this]; simp
theorem Drawn.any (D : Drawn C TI ops s st s') {P : Program} {Q : Exit → Act → World → Prop} (I : S → Act → World → Prop)
    (step : ∀ (i : Nat) (o : Oper) (σ : S) (ws : List Wr) (a : Act) (w : World) (K : Act → World → Prop), ops[i]? = some o → I σ a w → (pgG TI ops.toList o).Ev C (fun _ => True) σ ws →
      (∀ a' w', I (σ.puts ws) a' w' → K a' w') → wpOp P ops Q i K a w)
    (hQ : ∀ a w, I s' a w → Q .normal a w) :
    ∀ (fuel : Nat) (listed : Array Bool) (a : Act) (w : World), listed.size = ops.size → Closed ops (fun i => listed.getD i false) →
      (∀ k, (∀ i, i < k → listed.getD i false = true) ∨ True) → I (mix st (fun i => listed.getD i false) 0 s) a w →
      ((List.range ops.size).filter (fun i => !listed.getD i false)).length ≤ fuel → wpAny P .any ops Q fuel listed a w := by
  have done : ∀ (listed : Array Bool) (a : Act) (w : World), listed.size = ops.size → Region.ready .any ops listed = [] → I (mix st (fun i => listed.getD i false) 0 s) a w → Q .normal a w := by
    intro listed a w hs hr hI
    have hall : ∀ i, i < ops.size → listed.getD i false = true := by
      intro i
      induction i using Nat.strongRecOn with
      | _ i ih =>
        intro hi
        cases hl : listed.getD i false with
        | true => rfl
        | false =>
          have : i ∈ Region.ready .any ops listed := by
            rw [mem_ready]
            refine ⟨by simpa [Array.getD, hs, hi] using hl, ops[i], by simp [hi], fun e he hb => ?_⟩
            have hlt := D.back i ops[i] e (by simp [hi]) he hb
            exact ih e.on hlt (by omega)
          rw [hr] at this; cases this
    have : mix st (fun i => listed.getD i false) 0 s = s' := by
      rw [D.fin]
      apply S.ext_get; intro r
      rw [mix_get, mix_get]
      congr 1
      refine lookM_congr _ _ _ _ _ fun i y hy hne => ?_
      have hi : i < ops.size := by rw [← D.len]; exact (List.getElem?_eq_some_iff.1 hy).1
      simp only [Nat.zero_add] at hne
      exact absurd (hall i hi) hne
    rw [this] at hI
    exact hQ a w hI
  intro fuel
  induction fuel with
  | zero =>
    intro listed a w hs hcl _ hI hf
    have hempty : Region.ready .any ops listed = [] := by
      apply List.eq_nil_iff_forall_not_mem.2
      intro i hi
      rw [mem_ready] at hi
      obtain ⟨h0, o, ho, _⟩ := hi
      have hlt : i < ops.size := (Array.getElem?_eq_some_iff.1 ho).1
      have : i ∈ (List.range ops.size).filter (fun i => !listed.getD i false) := by
        rw [List.mem_filter, List.mem_range]
        refine ⟨hlt, ?_⟩
        have : listed.getD i false = false := by simpa [Array.getD, hs, hlt] using h0
        simp [this]
      have := List.length_pos_of_mem this
      omega
    exact ⟨hempty, done listed a w hs hempty hI⟩
  | succ fuel ih =>
    intro listed a w hs hcl _ hI hf
    refine ⟨fun hr => done listed a w hs hr hI, fun j hj => ?_⟩
    rw [mem_ready] at hj
    obtain ⟨h0, o, ho, hd⟩ := hj
    have hlt : j < ops.size := (Array.getElem?_eq_some_iff.1 ho).1
    have hn : listed.getD j false = false := by simpa [Array.getD, hs, hlt] using h0
    have hx : ∃ x, st[j]? = some x := by rw [← D.len] at hlt; exact ⟨st[j], by simp [hlt]⟩
    obtain ⟨x, hx⟩ := hx
    obtain ⟨hxs, o', ho', hev⟩ := D.at_ j x hx
    rw [ho] at ho'; cases ho'
    have hev2 : (pgG TI ops.toList o).Ev C (fun _ => True) (mix st (fun i => listed.getD i false) 0 s) x.ws :=
      (hev.congr (fun r hr => D.reads hcl ho hx hd hn r hr)).mono (fun _ _ => trivial)
    refine step j o _ _ a w _ ho hI hev2 fun a' w' hI' => ?_
    have hset : ∀ i, (listed.setIfInBounds j true).getD i false = (if i = j then true else listed.getD i false) := by
      intro i
      by_cases e : i = j
      · subst e; simp [Array.getD, hs, hlt]
      · rw [getD_set_ne false (Ne.symm e), if_neg e]
    have hw := D.writes hcl ho hx hn hset
    refine ih _ a' w' (by simp [hs]) ?_ (fun _ => .inr trivial) ?_ ?_
    · intro i oi hoi hli e he hb
      simp only [hset] at hli ⊢
      split
      · rfl
      · by_cases eij : i = j
        · subst eij; rw [ho] at hoi; cases hoi; exact hd e he hb
        · rw [if_neg eij] at hli; exact hcl i oi hoi hli e he hb
    · have : (fun i => (listed.setIfInBounds j true).getD i false) = fun i => (if i = j then true else listed.getD i false) := funext hset
      rw [hw]; exact hI'
    · have hsub : ((List.range ops.size).filter (fun i => !(listed.setIfInBounds j true).getD i false)).length < ((List.range ops.size).filter (fun i => !listed.getD i false)).length := by
        have : ∀ (l : List Nat), l.Nodup → j ∈ l → (l.filter (fun i => !(listed.setIfInBounds j true).getD i false)).length < (l.filter (fun i => !listed.getD i false)).length := by
          intro l
          induction l with
          | nil => intro _ h; cases h
          | cons y l ihl =>
            intro hnd hm
            rw [List.nodup_cons] at hnd
            by_cases e : y = j
            · subst e
              rw [List.filter_cons_of_neg (by simp [hset]), List.filter_cons_of_pos (by simp [hn])]
              have : l.filter (fun i => !(listed.setIfInBounds y true).getD i false) = l.filter (fun i => !listed.getD i false) := by
                apply List.filter_congr
                intro z hz
                have : z ≠ y := fun e => hnd.1 (e ▸ hz)
                rw [hset, if_neg this]
              rw [this]; simp
            · have hm' : j ∈ l := by cases hm with | head => exact absurd rfl e | tail _ h => exact h
              have h1 := ihl hnd.2 hm'
              have hey : (listed.setIfInBounds j true).getD y false = listed.getD y false := by rw [hset, if_neg e]
              simp only [List.filter_cons, hey]
              split
              · simp only [List.length_cons]; omega
              · exact h1
        exact this _ List.nodup_range (by simp [hlt])
      omega
end
end Go.Proofs.Ytjonpmckkmnemaa.Th
set_option linter.unusedVariables false
set_option linter.unusedSimpArgs false
namespace Go.Proofs.Ytjonpmckkmnemaa.Th
open Go Go.RowKit
def All2 {α β : Type} (R : α → β → Prop) : List α → List β → Prop
  | [], [] => True
  | a :: as, b :: bs => R a b ∧ All2 R as bs
  | _, _ => False
theorem All2.imp {α β : Type} {R R' : α → β → Prop} (h : ∀ a b, R a b → R' a b) : ∀ {as : List α} {bs : List β}, All2 R as bs → All2 R' as bs
  | [], [], _ => trivial
  | _ :: _, _ :: _, ⟨x, y⟩ => ⟨h _ _ x, All2.imp h y⟩
  | [], _ :: _, k => k.elim
  | _ :: _, [], k => k.elim
theorem All2.len {α β : Type} {R : α → β → Prop} : ∀ {as : List α} {bs : List β}, All2 R as bs → as.length = bs.length
  | [], [], _ => rfl
  | _ :: _, _ :: _, ⟨_, y⟩ => by simp [All2.len y]
  | [], _ :: _, k => k.elim
  | _ :: _, [], k => k.elim
theorem All2.get {α β : Type} {R : α → β → Prop} : ∀ {as : List α} {bs : List β}, All2 R as bs → ∀ (i : Nat) (a : α), as[i]? = some a → ∃ b, bs[i]? = some b ∧ R a b
  | [], [], _, i, a, h => by simp at h
  | x :: _, y :: _, ⟨p, q⟩, i, a, h => by
    cases i with
    | zero => simp at h; subst h; exact ⟨y, rfl, p⟩
    | succ i => simp at h; simpa using All2.get q i a h
  | [], _ :: _, k, _, _, _ => k.elim
  | _ :: _, [], k, _, _, _ => k.elim
theorem All2.append {α β : Type} {R : α → β → Prop} : ∀ {as : List α} {bs : List β} {cs : List α} {ds : List β}, All2 R as bs → All2 R cs ds → All2 R (as ++ cs) (bs ++ ds)
  | [], [], _, _, _, h => h
  | _ :: _, _ :: _, _, _, ⟨p, q⟩, h => ⟨p, All2.append q h⟩
  | [], _ :: _, _, _, k, _ => k.elim
  | _ :: _, [], _, _, k, _ => k.elim
theorem All2.take {α β : Type} {R : α → β → Prop} (n : Nat) : ∀ {as : List α} {bs : List β}, All2 R as bs → All2 R (as.take n) (bs.take n) := by
  induction n with
  | zero => intro as bs h; simp [All2]
  | succ n ih =>
    intro as bs h
    cases as <;> cases bs
    · simp [All2]
    · exact h.elim
    · exact h.elim
    · exact ⟨h.1, ih h.2⟩
theorem All2.drop {α β : Type} {R : α → β → Prop} (n : Nat) : ∀ {as : List α} {bs : List β}, All2 R as bs → All2 R (as.drop n) (bs.drop n) := by
  induction n with
  | zero => intro as bs h; simpa using h
  | succ n ih =>
    intro as bs h
    cases as <;> cases bs
    · simp [All2]
    · exact h.elim
    · exact h.elim
    · simpa using ih h.2
theorem All2.of_get {α β : Type} {R : α → β → Prop} : ∀ {as : List α} {bs : List β}, as.length = bs.length → (∀ (i : Nat) (a : α) (b : β), as[i]? = some a → bs[i]? = some b → R a b) → All2 R as bs
  | [], [], _, _ => trivial
  | x :: as, y :: bs, h, k => ⟨k 0 x y rfl rfl, All2.of_get (by simpa using h) fun i a b ha hb => k (i + 1) a b (by simpa using ha) (by simpa using hb)⟩
  | [], _ :: _, h, _ => by simp at h
  | _ :: _, [], h, _ => by simp at h
def Cell (w : World) (pr : Nat → Nat → Prop) (a : Addr) (v : Value) : Prop := w.cell? a = some v ∧ pr a.block a.off
def strV (s : List UInt8) : Value := .string ⟨s.toArray⟩
def CapOK (a : Option Addr) (n c : Nat) : Prop := n ≤ c ∧ (a = none → c = 0)
def SlR {α : Type} (w : World) (pr : Nat → Nat → Prop) (sz : Nat) (R : α → List Value → Prop) (l : List α) (cs : List Value) : Prop :=
  ∃ a c, cs = [.slice a l.length c] ∧ CapOK a l.length c ∧
    ∀ (j : Nat) (x : α), l[j]? = some x → ∃ ad vs, a = some ad ∧ vs.length = sz ∧
      (∀ (i : Nat) (v : Value), vs[i]? = some v → Cell w pr (ad.add (j * sz + i)) v) ∧ R x vs
def InIf (st : Bool) (u : Value) (us : List Value) : Prop := match st with
  | true => u = .agg us.toArray
  | false => us = [u]
def cloV (st : Bool) (f : Nat) (us : List Value) : Value := match st with
  | true => .func (.func f) #[.agg us.toArray] #[]
  | false => .func (.func f) #[] us.toArray
def TR (w : World) (pr : Nat → Nat → Prop) : (T : Ty) → T.den → List Value → Prop
  | .int k, n, cs => cs = [.int k n]
  | .bool, b, cs => cs = [.bool b]
  | .str, s, cs => cs = [strV s]
  | .flt, b, cs => cs = [.float .f64 b]
  | .cpx, z, cs => cs = [.complex .f64 z.1 z.2]
  | .slice e, l, cs => SlR w pr e.size (TR w pr e) l cs
  | .st f, x, cs => TR w pr f x cs
  | .nil, _, cs => cs = []
  | .cons a b, x, cs => ∃ c1 c2, cs = c1 ++ c2 ∧ TR w pr a x.1 c1 ∧ TR w pr b x.2 c2
  | .ifc t a, x, cs => ∃ u us, cs = [Value.iface t u] ∧ InIf a.isSt u us ∧ TR w pr a x us
  | .clo f a, x, cs => ∃ us : List Value, cs = [cloV a.isSt f us] ∧ TR w pr a x us
  | .ref a, x, cs => ∃ (ad : Addr) (us : List Value), cs = [Value.pointer (some ad)] ∧ (∀ (i : Nat) (u : Value), us[i]? = some u → Cell w pr (ad.add i) u) ∧ TR w pr a x us
  | .arr n e, l, cs => l.length = n ∧ All2 (fun x u => SlR w pr e.size (TR w pr e) x [u]) l cs
theorem TR.len {w : World} {pr : Nat → Nat → Prop} : ∀ {T : Ty} {x : T.den} {cs : List Value}, TR w pr T x cs → cs.length = T.size := by
  intro T
  induction T with
  | st f ih => intro x cs h; exact ih h
  | cons a b iha ihb => rintro x cs ⟨c1, c2, rfl, h1, h2⟩; simp [iha h1, ihb h2, Ty.size]
  | slice e _ => rintro x cs ⟨a, c, rfl, _⟩; rfl
  | ifc t a _ => rintro x cs ⟨u, us, rfl, _⟩; rfl
  | clo t a _ => rintro x cs ⟨us, rfl, _⟩; rfl
  | ref a _ => rintro x cs ⟨ad, us, rfl, _⟩; rfl
  | arr n e _ => rintro x cs ⟨hn, h⟩; exact h.len.symm.trans hn
  | nil => intro x cs h; cases h; rfl
  | _ => intro x cs h; cases h; rfl
def PrKeeps (w : World) (pr : Nat → Nat → Prop) (w' : World) (pr' : Nat → Nat → Prop) : Prop :=
  ∀ k o, pr k o → pr' k o ∧ w'.cell? ⟨k, o, none⟩ = w.cell? ⟨k, o, none⟩
theorem cell_spot {w : World} {a : Addr} {v : Value} (h : w.cell? a = some v) : a = ⟨a.block, a.off, none⟩ := by
  obtain ⟨b, o, s⟩ := a
  simp only [World.cell?] at h
  split at h
  · cases s with
    | none => rfl
    | some x => simp at h
  · cases h
theorem Cell.keeps {w w' : World} {pr pr' : Nat → Nat → Prop} (hk : PrKeeps w pr w' pr') {a : Addr} {v : Value} (h : Cell w pr a v) : Cell w' pr' a v := by
  obtain ⟨h1, h2⟩ := h
  have e := cell_spot h1
  obtain ⟨p, q⟩ := hk _ _ h2
  refine ⟨?_, p⟩
  rw [e] at h1 ⊢
  rw [q]; exact h1
theorem TR.keeps {w w' : World} {pr pr' : Nat → Nat → Prop} (hk : PrKeeps w pr w' pr') : ∀ {T : Ty} {x : T.den} {cs : List Value}, TR w pr T x cs → TR w' pr' T x cs := by
  intro T
  induction T with
  | st f ih => intro x cs h; exact ih h
  | cons a b iha ihb => rintro x cs ⟨c1, c2, rfl, h1, h2⟩; exact ⟨c1, c2, rfl, iha h1, ihb h2⟩
  | slice e ih =>
    rintro x cs ⟨a, c, rfl, h1, h2⟩
    refine ⟨a, c, rfl, h1, fun j y hj => ?_⟩
    obtain ⟨ad, vs, p, q, r, t⟩ := h2 j y hj
    exact ⟨ad, vs, p, q, fun i v hv => (r i v hv).keeps hk, ih t⟩
  | ifc t a ih => rintro x cs ⟨u, us, e, h1, h2⟩; exact ⟨u, us, e, h1, ih h2⟩
  | clo t a ih => rintro x cs ⟨us, e, h2⟩; exact ⟨us, e, ih h2⟩
  | ref a ih => rintro x cs ⟨ad, us, e, h1, h2⟩; exact ⟨ad, us, e, fun i u hu => (h1 i u hu).keeps hk, ih h2⟩
  | arr n e ih =>
    rintro x cs ⟨hn, h⟩
    refine ⟨hn, h.imp fun y u => ?_⟩
    rintro ⟨a, c, ec, h1, h2⟩
    refine ⟨a, c, ec, h1, fun j y hj => ?_⟩
    obtain ⟨ad, vs, p, q, r, t⟩ := h2 j y hj
    exact ⟨ad, vs, p, q, fun i v hv => (r i v hv).keeps hk, ih t⟩
  | _ => intro x cs h; exact h
def PR (w : World) (pr : Nat → Nat → Prop) : AV → Value → Prop
  | .int k n, v => v = .int k n
  | .bool b, v => v = .bool b
  | .str s, v => v = strV s
  | .flt b, v => v = .float .f64 b
  | .cpx a b, v => v = .complex .f64 a b
  | .nilsl, v => v = .slice none 0 0
  | .sl T l, v => TR w pr (.slice T) l [v]
  | .ifv t T x, v => TR w pr (.ifc t T) x [v]
  | .fnv f T x, v => TR w pr (.clo f T) x [v]
  | .imm T x, v => TR w pr (.ref T) x [v]
  | _, _ => False
theorem PR.keeps {w w' : World} {pr pr' : Nat → Nat → Prop} (hk : PrKeeps w pr w' pr') {v : AV} {u : Value} (h : PR w pr v u) : PR w' pr' v u := by
  cases v <;> first | exact h | exact TR.keeps hk h
theorem PR.plain {w : World} {pr : Nat → Nat → Prop} {v : AV} {u : Value} (h : PR w pr v u) : isPlainCell v = true := by
  cases v <;> first | rfl | exact h.elim
theorem arr_cells {α : Type} (f : List α → AV) : ∀ (l : List (List α)), (List.range l.length).map (fun i => f (l.getD i [])) = l.map f := by
  intro l
  apply List.ext_getElem?
  intro i
  rw [List.getElem?_map, List.getElem?_map]
  rcases Nat.lt_or_ge i l.length with h | h
  · rw [List.getElem?_range h, List.getElem?_eq_getElem h]; simp [List.getD, h]
  · rw [List.getElem?_eq_none (by simpa using h), List.getElem?_eq_none h]; rfl
theorem all2_map {α β γ : Type} {R : β → γ → Prop} {f : α → β} : ∀ {l : List α} {us : List γ}, All2 (fun x u => R (f x) u) l us → All2 R (l.map f) us
  | [], [], _ => trivial
  | _ :: _, _ :: _, ⟨a, b⟩ => ⟨a, all2_map b⟩
  | [], _ :: _, h => h.elim
  | _ :: _, [], h => h.elim
theorem cells_PR {w : World} {pr : Nat → Nat → Prop} : ∀ {T : Ty} {x : T.den} {cs : List Value}, TR w pr T x cs → All2 (PR w pr) (T.cells x) cs := by
  intro T
  induction T with
  | st f ih => intro x cs h; exact ih h
  | cons a b iha ihb => rintro x cs ⟨c1, c2, rfl, h1, h2⟩; exact (iha h1).append (ihb h2)
  | slice e _ =>
    intro x cs h
    obtain ⟨a, c, rfl, _⟩ := id h
    exact ⟨h, trivial⟩
  | ifc t a _ =>
    intro x cs h
    obtain ⟨u, us, rfl, _⟩ := id h
    exact ⟨h, trivial⟩
  | clo t a _ =>
    intro x cs h
    obtain ⟨us, rfl, _⟩ := id h
    exact ⟨h, trivial⟩
  | ref a _ =>
    intro x cs h
    obtain ⟨ad, us, rfl, _⟩ := id h
    exact ⟨h, trivial⟩
  | arr n e _ =>
    rintro x cs ⟨hn, h⟩
    show All2 _ ((List.range n).map fun i => AV.sl e (List.getD x i [])) cs
    rw [← hn, arr_cells (AV.sl e) x]
    exact all2_map h
  | nil => intro x cs h; cases h; trivial
  | _ => intro x cs h; cases h; exact ⟨rfl, trivial⟩
theorem TR_nilsl (w : World) (pr : Nat → Nat → Prop) (e : Ty) : TR w pr (.slice e) ([] : List e.den) [.slice none 0 0] :=
  ⟨none, 0, rfl, ⟨Nat.le_refl _, fun _ => rfl⟩, fun j x h => by simp at h⟩
theorem one_of {R : AV → Value → Prop} {v : AV} {us : List Value} (h : All2 R [v] us) : ∃ u, us = [u] ∧ R v u := by
  cases us with
  | nil => exact h.elim
  | cons u us => cases us with
    | nil => exact ⟨u, rfl, h.1⟩
    | cons _ _ => exact h.2.elim
theorem oInt_eq {k : IntKind} {cs : List AV} {n : Int} (h : oInt k cs = some n) : cs = [.int k n] := by
  unfold oInt at h
  split at h
  · split at h
    · rename_i e; cases h; rw [e]
    · cases h
  · cases h
theorem oBool_eq {cs : List AV} {b : Bool} (h : oBool cs = some b) : cs = [.bool b] := by
  unfold oBool at h
  split at h <;> cases h; rfl
theorem oStr_eq {cs : List AV} {b : List UInt8} (h : oStr cs = some b) : cs = [.str b] := by
  unfold oStr at h
  split at h <;> cases h; rfl
theorem oFlt_eq {cs : List AV} {b : Nat} (h : oFlt cs = some b) : cs = [.flt b] := by
  unfold oFlt at h
  split at h <;> cases h; rfl
theorem oCpx_eq {cs : List AV} {z : Nat × Nat} (h : oCpx cs = some z) : cs = [.cpx z.1 z.2] := by
  unfold oCpx at h
  split at h <;> cases h; rfl
theorem oNil_eq {cs : List AV} {z : Unit} (h : oNil cs = some z) : cs = [] := by
  unfold oNil at h
  split at h <;> cases h; rfl
theorem oSl_eq {e : Ty} {cs : List AV} {l : List e.den} (h : oSl e cs = some l) : (cs = [.nilsl] ∧ l = []) ∨ cs = [.sl e l] := by
  unfold oSl at h
  split at h
  · cases h; exact .inl ⟨rfl, rfl⟩
  · split at h
    · rename_i hd _
      obtain ⟨rfl⟩ := hd
      cases h
      exact .inr rfl
    · cases h
  · cases h
theorem oIfc_eq {t : Nat} {a : Ty} {cs : List AV} {x : a.den} (h : oIfc t a cs = some x) : cs = [.ifv t a x] := by
  unfold oIfc at h
  split at h
  · split at h
    · rename_i e
      subst e
      split at h
      · rename_i hd _
        obtain ⟨rfl⟩ := hd
        cases h
        rfl
      · cases h
    · cases h
  · cases h
theorem oClo_eq {t : Nat} {a : Ty} {cs : List AV} {x : a.den} (h : oClo t a cs = some x) : cs = [.fnv t a x] := by
  unfold oClo at h
  split at h
  · split at h
    · rename_i e
      subst e
      split at h
      · rename_i hd _
        obtain ⟨rfl⟩ := hd
        cases h
        rfl
      · cases h
    · cases h
  · cases h
theorem oRef_eq {a : Ty} {cs : List AV} {x : a.den} (h : oRef a cs = some x) : cs = [.imm a x] := by
  unfold oRef at h
  split at h
  · split at h
    · rename_i hd _
      obtain ⟨rfl⟩ := hd
      cases h
      rfl
    · cases h
  · cases h
theorem oSl_TR {w : World} {pr : Nat → Nat → Prop} {e : Ty} {v : AV} {l : List e.den} {u : Value} (h : oSl e [v] = some l) (hr : PR w pr v u) : SlR w pr e.size (TR w pr e) l [u] := by
  rcases oSl_eq h with ⟨h1, rfl⟩ | h1
  · cases h1
    rw [show u = _ from hr]; exact TR_nilsl _ _ _
  · cases h1
    exact hr
theorem oArr_len {e : Ty} : ∀ {n : Nat} {cs : List AV} {l : List (List e.den)}, oArr e n cs = some l → l.length = n ∧ cs.length = n
  | 0, [], l, h => by cases h; exact ⟨rfl, rfl⟩
  | 0, _ :: _, l, h => by cases h
  | n + 1, [], l, h => by cases h
  | n + 1, c :: cs, l, h => by
    simp only [oArr] at h
    cases h1 : oSl e [c] with
    | none => rw [h1] at h; cases h
    | some x =>
      cases h2 : oArr e n cs with
      | none => rw [h1, h2] at h; cases h
      | some r =>
        rw [h1, h2] at h; cases h
        have := oArr_len h2
        simp [this]
theorem oArr_get {e : Ty} : ∀ {n : Nat} {cs : List AV} {l : List (List e.den)}, oArr e n cs = some l → ∀ (i : Nat) (x : List e.den), l[i]? = some x → ∃ v, cs[i]? = some v ∧ oSl e [v] = some x
  | 0, [], l, h, i, x, hx => by cases h; simp at hx
  | 0, _ :: _, l, h, i, x, hx => by cases h
  | n + 1, [], l, h, i, x, hx => by cases h
  | n + 1, c :: cs, l, h, i, x, hx => by
    simp only [oArr] at h
    cases h1 : oSl e [c] with
    | none => rw [h1] at h; cases h
    | some x1 =>
      cases h2 : oArr e n cs with
      | none => rw [h1, h2] at h; cases h
      | some r =>
        rw [h1, h2] at h; cases h
        cases i with
        | zero => simp at hx; subst hx; exact ⟨c, rfl, h1⟩
        | succ i => simp at hx; simpa using oArr_get h2 i x hx
theorem oArr_TR {w : World} {pr : Nat → Nat → Prop} {e : Ty} : ∀ {n : Nat} {cs : List AV} {l : List (List e.den)} {us : List Value}, oArr e n cs = some l → All2 (PR w pr) cs us → All2 (fun x u => SlR w pr e.size (TR w pr e) x [u]) l us
  | 0, [], l, us, h, hr => by cases h; cases us with | nil => trivial | cons _ _ => exact hr.elim
  | 0, _ :: _, l, us, h, hr => by cases h
  | n + 1, [], l, us, h, hr => by cases h
  | n + 1, c :: cs, l, us, h, hr => by
    simp only [oArr] at h
    cases us with
    | nil => exact hr.elim
    | cons u us =>
    cases h1 : oSl e [c] with
    | none => rw [h1] at h; cases h
    | some x1 =>
      cases h2 : oArr e n cs with
      | none => rw [h1, h2] at h; cases h
      | some r =>
        rw [h1, h2] at h; cases h
        exact ⟨oSl_TR h1 hr.1, oArr_TR h2 hr.2⟩
theorem ofCells_TR {w : World} {pr : Nat → Nat → Prop} : ∀ {T : Ty} {x : T.den} {cs : List AV} {us : List Value}, T.ofCells cs = some x → All2 (PR w pr) cs us → TR w pr T x us := by
  intro T
  induction T with
  | int k => intro x cs us h hr; rw [oInt_eq h] at hr; obtain ⟨u, rfl, hu⟩ := one_of hr; exact congrArg (fun z => [z]) hu
  | bool => intro x cs us h hr; rw [oBool_eq h] at hr; obtain ⟨u, rfl, hu⟩ := one_of hr; exact congrArg (fun z => [z]) hu
  | str => intro x cs us h hr; rw [oStr_eq h] at hr; obtain ⟨u, rfl, hu⟩ := one_of hr; exact congrArg (fun z => [z]) hu
  | flt => intro x cs us h hr; rw [oFlt_eq h] at hr; obtain ⟨u, rfl, hu⟩ := one_of hr; exact congrArg (fun z => [z]) hu
  | cpx => intro x cs us h hr; rw [oCpx_eq h] at hr; obtain ⟨u, rfl, hu⟩ := one_of hr; exact congrArg (fun z => [z]) hu
  | slice e ih =>
    intro x cs us h hr
    rcases oSl_eq h with ⟨rfl, rfl⟩ | rfl
    · obtain ⟨u, rfl, hu⟩ := one_of hr
      rw [show u = _ from hu]; exact TR_nilsl _ _ _
    · obtain ⟨u, rfl, hu⟩ := one_of hr
      exact hu
  | st f ih => intro x cs us h hr; exact ih h hr
  | ifc t a _ =>
    intro x cs us h hr
    rw [oIfc_eq h] at hr
    obtain ⟨u, rfl, hu⟩ := one_of hr
    exact hu
  | clo t a _ =>
    intro x cs us h hr
    rw [oClo_eq h] at hr
    obtain ⟨u, rfl, hu⟩ := one_of hr
    exact hu
  | ref a _ =>
    intro x cs us h hr
    rw [oRef_eq h] at hr
    obtain ⟨u, rfl, hu⟩ := one_of hr
    exact hu
  | arr n e _ => intro x cs us h hr; exact ⟨(oArr_len h).1, oArr_TR h hr⟩
  | nil => intro x cs us h hr; rw [oNil_eq h] at hr; cases us with | nil => rfl | cons _ _ => exact hr.elim
  | cons a b iha ihb =>
    intro x cs us h hr
    simp only [Ty.ofCells] at h
    cases hx : a.ofCells (cs.take a.size) with
    | none => rw [hx] at h; cases h
    | some x1 =>
      cases hy : b.ofCells (cs.drop a.size) with
      | none => rw [hx, hy] at h; cases h
      | some y1 =>
        rw [hx, hy] at h; cases h
        exact ⟨us.take a.size, us.drop a.size, (List.take_append_drop _ _).symm, iha hx (hr.take _), ihb hy (hr.drop _)⟩
def GarR (w : World) (pr : Nat → Nat → Prop) (T : Ty) (l : List T.den) (v : Value) : Prop :=
  ∃ ad : Addr, v = .pointer (some ad) ∧ ∀ (j : Nat) (x : T.den), l[j]? = some x → ∃ vs, vs.length = T.size ∧ (∀ (i : Nat) (u : Value), vs[i]? = some u → Cell w pr (ad.add (j * T.size + i)) u) ∧ TR w pr T x vs
theorem GarR.keeps {w w' : World} {pr pr' : Nat → Nat → Prop} (hk : PrKeeps w pr w' pr') {T : Ty} {l : List T.den} {v : Value} (h : GarR w pr T l v) : GarR w' pr' T l v := by
  obtain ⟨ad, e, h⟩ := h
  refine ⟨ad, e, fun j x hx => ?_⟩
  obtain ⟨vs, a, b, c⟩ := h j x hx
  exact ⟨vs, a, fun i u hu => (b i u hu).keeps hk, c.keeps hk⟩
def GlobOK (w : World) (pr : Nat → Nat → Prop) : Prop := ∀ n r, gtab n = some r → GarR w pr r.T r.l (.pointer (some ⟨n, 0, none⟩))
theorem GlobOK.keeps {w w' : World} {pr pr' : Nat → Nat → Prop} (hk : PrKeeps w pr w' pr') (h : GlobOK w pr) : GlobOK w' pr' := fun n r hr => (h n r hr).keeps hk
structure TG where
  val : Value
  blk : Option Nat
  esz : Nat
structure Gh where
  pr : Nat → Nat → Prop
  β : Nat → Option Nat
  τ : Nat → Option TG
def LR (w : World) (g : Gh) : AV → Value → Prop
  | .undef, _ => True
  | .ref t, v => ∃ tg, g.τ t = some tg ∧ v = tg.val ∧ v.oneCell' = true
  | .agg cs, v => ∃ us : List Value, v = .agg us.toArray ∧ All2 (PR w g.pr) cs us
  | .nilptr, v => v = .pointer none
  | .ptr b o, v => ∃ k, g.β b = some k ∧ v = .pointer (some ⟨k, o, none⟩)
  | .pim cs o, v => ∃ (ad : Addr) (us : List Value), v = .pointer (some (ad.add o)) ∧ All2 (PR w g.pr) cs us ∧ ∀ (i : Nat) (u : Value), us[i]? = some u → Cell w g.pr (ad.add i) u
  | .pel t i o, v => ∃ tg k, g.τ t = some tg ∧ tg.blk = some k ∧ v = .pointer (some ⟨k, i * tg.esz + o, none⟩)
  | .view t i, v => ∃ (tg : TG) (A A0 : Option Addr) (n c c' : Nat), g.τ t = some tg ∧ tg.val = .slice A0 n c ∧ v = .slice A (n - i) c' ∧ (i < n → ∃ k, tg.blk = some k ∧ A = some ⟨k, i * tg.esz, none⟩)
  | .fn f cap, v => ∃ us : List Value, v = .func (.func f) #[] us.toArray ∧ All2 (PR w g.pr) cap us
  | .nilfn, v => v = .nilFunc
  | .nilif, v => v = .nilIface
  | .nsl T l, v => PR w g.pr (.sl T l) v ∧ ∃ ad n c, v = .slice (some ad) n c
  | .gar _ T l, v => GarR w g.pr T l v
  | .own _ _, _ => False
  | .tup _, _ => False
  | .lent _, _ => False
  | .back _ _, _ => False
  | .fz c, v => PR w g.pr c v
  | .parr b o n _ i, v => i < n ∧ ∃ k, g.β b = some k ∧ v = .pointer (some ⟨k, o + i, none⟩)
  | .lev b o f, v => ∃ k, g.β b = some k ∧ v = .agg #[.pointer (some ⟨k, o, none⟩), .func (.func f) #[] #[]]
  | .mp t, v => ∃ tg k, g.τ t = some tg ∧ v = tg.val ∧ tg.val = .map (some k)
  | c, v => PR w g.pr c v
def VR (w : World) (g : Gh) : AV → Value → Prop
  | .tup vs, v => ∃ us : List Value, v = .tuple us.toArray ∧ All2 (LR w g) vs us
  | c, v => LR w g c v
structure Keeps (w : World) (g : Gh) (w' : World) (g' : Gh) : Prop where
  pr : PrKeeps w g.pr w' g'.pr
  β : ∀ b k, g.β b = some k → g'.β b = some k
  τ : ∀ t tg, g.τ t = some tg → g'.τ t = some tg
theorem Keeps.refl (w : World) (g : Gh) : Keeps w g w g := ⟨fun _ _ h => ⟨h, rfl⟩, fun _ _ h => h, fun _ _ h => h⟩
theorem Keeps.trans {w w1 w2 : World} {g g1 g2 : Gh} (h : Keeps w g w1 g1) (k : Keeps w1 g1 w2 g2) : Keeps w g w2 g2 :=
  ⟨fun a o p => ⟨(k.pr _ _ (h.pr _ _ p).1).1, (k.pr _ _ (h.pr _ _ p).1).2.trans (h.pr _ _ p).2⟩, fun b x y => k.β _ _ (h.β _ _ y), fun t x y => k.τ _ _ (h.τ _ _ y)⟩
theorem LR.keeps {w w' : World} {g g' : Gh} (hk : Keeps w g w' g') {v : AV} {u : Value} (h : LR w g v u) : LR w' g' v u := by
  cases v with
  | undef => trivial
  | ref t => obtain ⟨tg, a, b⟩ := h; exact ⟨tg, hk.τ _ _ a, b⟩
  | agg cs => obtain ⟨us, a, b⟩ := h; exact ⟨us, a, b.imp fun _ _ => PR.keeps hk.pr⟩
  | ptr b o => obtain ⟨k, a, c⟩ := h; exact ⟨k, hk.β _ _ a, c⟩
  | pim cs o => obtain ⟨ad, us, a, b, c⟩ := h; exact ⟨ad, us, a, b.imp fun _ _ => PR.keeps hk.pr, fun i u hu => (c i u hu).keeps hk.pr⟩
  | pel t i o => obtain ⟨tg, k, a, b, c⟩ := h; exact ⟨tg, k, hk.τ _ _ a, b, c⟩
  | view t i => obtain ⟨tg, A, A0, n, c, c', a, b⟩ := h; exact ⟨tg, A, A0, n, c, c', hk.τ _ _ a, b⟩
  | fn f cap => obtain ⟨us, a, b⟩ := h; exact ⟨us, a, b.imp fun _ _ => PR.keeps hk.pr⟩
  | sl T l => exact TR.keeps hk.pr h
  | ifv t T x => exact TR.keeps hk.pr h
  | fnv t T x => exact TR.keeps hk.pr h
  | imm T x => exact TR.keeps hk.pr h
  | fz v => exact PR.keeps hk.pr (v := v) h
  | parr b o n e i => obtain ⟨h1, k, a, c⟩ := h; exact ⟨h1, k, hk.β _ _ a, c⟩
  | lev b o f => obtain ⟨k, a, c⟩ := h; exact ⟨k, hk.β _ _ a, c⟩
  | mp t => obtain ⟨tg, k, a, b⟩ := h; exact ⟨tg, k, hk.τ _ _ a, b⟩
  | nsl T l => obtain ⟨a, b⟩ := h; exact ⟨PR.keeps hk.pr a, b⟩
  | gar e T l => exact GarR.keeps hk.pr h
  | _ => exact h
theorem VR_or {w : World} {g : Gh} {v : AV} {u : Value} (h : VR w g v u) : (∃ vs, v = .tup vs ∧ ∃ us : List Value, u = .tuple us.toArray ∧ All2 (LR w g) vs us) ∨ LR w g v u := by
  cases v with
  | tup vs => exact .inl ⟨vs, rfl, h⟩
  | _ => exact .inr h
theorem VR_of_LR {w : World} {g : Gh} {v : AV} {u : Value} (h : LR w g v u) : VR w g v u := by
  cases v with
  | tup vs => exact h.elim
  | _ => exact h
theorem VR.keeps {w w' : World} {g g' : Gh} (hk : Keeps w g w' g') {v : AV} {u : Value} (h : VR w g v u) : VR w' g' v u := by
  rcases VR_or h with ⟨vs, rfl, us, a, b⟩ | h
  · exact ⟨us, a, b.imp fun _ _ => LR.keeps hk⟩
  · exact VR_of_LR (LR.keeps hk h)
theorem LR_of_PR {w : World} {g : Gh} {v : AV} {u : Value} (h : PR w g.pr v u) : LR w g v u := by
  cases v <;> first | exact h | exact h.elim
structure Bd (μ : Bool) where
  n : Nat
  pr : Nat → Nat → Prop
  ln : Nat → Prop
  lb : Nat → Option Nat
def Bd.mine {μ : Bool} (B : Bd μ) (k : Nat) : Prop := B.n ≤ k ∨ B.ln k
def bd0 (μ : Bool) (n : Nat) (pr : Nat → Nat → Prop) : Bd μ := ⟨n, pr, fun _ => False, fun _ => none⟩
theorem bd0_mine {μ : Bool} {n : Nat} {pr : Nat → Nat → Prop} {k : Nat} : (bd0 μ n pr).mine k ↔ n ≤ k := ⟨fun h => h.elim id False.elim, .inl⟩
theorem Bd.mine_lt {μ : Bool} {B : Bd μ} {k : Nat} (h : ¬ B.mine k) : k < B.n := by
  rcases Nat.lt_or_ge k B.n with h1 | h1
  · exact h1
  · exact absurd (.inl h1) h
structure BelowB {μ : Bool} (B : Bd μ) (w w' : World) : Prop where
  os : w'.os = w.os
  tape : w'.tape = w.tape
  output : w'.output = w.output
  size : w.heap.size ≤ w'.heap.size
  block : ∀ k, ¬ B.mine k → w'.heap[k]? = w.heap[k]?
  dr : μ = true → w.drawn ≤ w'.drawn
structure BelowM (μ : Bool) (n : Nat) (w w' : World) : Prop extends Below n w w' where
  dr : μ = true → w.drawn ≤ w'.drawn
theorem BelowM.of0 {n : Nat} {w w' : World} (h : Below n w w') : BelowM false n w w' := ⟨h, fun e => by cases e⟩
theorem BelowB.refl {μ : Bool} (B : Bd μ) (w : World) : BelowB B w w := ⟨rfl, rfl, rfl, Nat.le_refl _, fun _ _ => rfl, fun _ => Nat.le_refl _⟩
theorem BelowB.trans {μ : Bool} {B : Bd μ} {a b c : World} (h : BelowB B a b) (k : BelowB B b c) : BelowB B a c :=
  ⟨k.os.trans h.os, k.tape.trans h.tape, k.output.trans h.output, Nat.le_trans h.size k.size, fun i hi => (k.block i hi).trans (h.block i hi), fun e => Nat.le_trans (h.dr e) (k.dr e)⟩
theorem BelowB.of {μ : Bool} {B : Bd μ} {w w' : World} (h : Below B.n w w') (hd : μ = true → w.drawn ≤ w'.drawn) : BelowB B w w' := ⟨h.os, h.tape, h.output, h.size, fun k hk => h.block k (Bd.mine_lt hk), hd⟩
theorem BelowB.to {μ : Bool} {n : Nat} {pr : Nat → Nat → Prop} {w w' : World} (h : BelowB (bd0 μ n pr) w w') : BelowM μ n w w' := ⟨⟨h.os, h.tape, h.output, h.size, fun k hk => h.block k fun e => by have := bd0_mine.1 e; omega⟩, h.dr⟩
theorem BelowB.drew {μ : Bool} {B : Bd μ} {a w : World} (h : BelowB B a w) : BelowB B a w.drew := ⟨h.os, h.tape, h.output, h.size, h.block, fun e => Nat.le_succ_of_le (h.dr e)⟩
theorem BelowB.alloc {μ : Bool} {B : Bd μ} {a w : World} (h : BelowB B a w) (hB : B.n ≤ w.heap.size) (o : Obj) : BelowB B a (w.alloc o) := h.trans (.of ((Below.refl _ _).alloc hB o) fun _ => Nat.le_refl _)
def Thawed (fr : Nat × Nat) (n : Nat) : Prop := fr.1 ≤ fr.2 ∧ ∀ o, o < n → (decide (fr.1 ≤ o) && decide (o < fr.2)) = false
def ThawedT (sh : Bool) (T : Ty) (fr : Nat × Nat) (n : Nat) : Prop := Thawed fr n ∧ (sh = false → T ≠ .int .u8 → fr = (0, 0))
structure BoxOK {μ : Bool} (B : Bd μ) (w : World) (g : Gh) (cs : List AV) (k : Nat) : Prop where
  above : B.mine k
  free : ∀ o, g.pr k o → ∃ v, cs[o]? = some (.fz v)
  row : ∃ us e fr, w.heap[k]? = some (.cells us e fr) ∧ Thawed fr us.size ∧ All2 (LR w g) cs us.toList
def RowOf (w : World) (pr : Nat → Nat → Prop) (T : Ty) (l : List T.den) (us : Array Value) : Prop :=
  ∀ (j : Nat) (x : T.den), l[j]? = some x → ∃ vs, vs.length = T.size ∧ (∀ (i : Nat) (v : Value), vs[i]? = some v → us[j * T.size + i]? = some v) ∧ TR w pr T x vs
structure TokRow {μ : Bool} (B : Bd μ) (w : World) (pr : Nat → Nat → Prop) (sh : Bool) (T : Ty) (l : List T.den) (k cap : Nat) : Prop where
  above : B.mine k
  len : l.length ≤ cap
  row : ∃ us e fr, w.heap[k]? = some (.cells us e fr) ∧ ThawedT sh T fr us.size ∧ cap * T.size ≤ us.size ∧ RowOf w pr T l us
  prlt : ∀ o, pr k o → o < l.length * T.size
  prsh : sh = true → ∀ o, o < l.length * T.size → pr k o
  prno : sh = false → ∀ o, ¬ pr k o
def TokOK {μ : Bool} (B : Bd μ) (w : World) (pr : Nat → Nat → Prop) (sh : Bool) (T : Ty) (l : List T.den) (tg : TG) : Prop :=
  tg.esz = T.size ∧ ((tg.val = .slice none 0 0 ∧ tg.blk = none ∧ l = []) ∨
    ∃ k cap, tg.val = .slice (some ⟨k, 0, none⟩) l.length cap ∧ tg.blk = some k ∧ TokRow B w pr sh T l k cap)
def MapRow (w : World) (pr : Nat → Nat → Prop) (K : Ty) (l : List K.den) (es : List MapEntry) : Prop :=
  All2 (fun (x : K.den) (e : MapEntry) => e.val = .bool true ∧ ∃ us : List Value, e.key = .agg us.toArray ∧ TR w pr K x us) l es
theorem MapRow.keeps {w w' : World} {pr pr' : Nat → Nat → Prop} (hk : PrKeeps w pr w' pr') {K : Ty} {l : List K.den} {es : List MapEntry} (h : MapRow w pr K l es) : MapRow w' pr' K l es :=
  All2.imp (fun _ _ ⟨a, us, b, c⟩ => ⟨a, us, b, c.keeps hk⟩) h
structure MapOK {μ : Bool} (B : Bd μ) (w : World) (pr : Nat → Nat → Prop) (K : Ty) (l : List K.den) (tg : TG) : Prop where
  it : ∃ k, tg.val = .map (some k) ∧ tg.blk = some k ∧ B.mine k ∧ (∃ (es : Array MapEntry) (c : Nat), w.heap[k]? = some (.map es c) ∧ MapRow w pr K l es.toList) ∧ ∀ o, ¬ pr k o
def Tok.isLive : Tok → Bool
  | .live _ _ _ => true
  | .mlive _ _ => true
  | _ => false
structure Ext {μ : Bool} (B : Bd μ) (g : Gh) (s : S) (w : World) (N : Nat) : Prop where
  lb : ∀ b k, B.lb b = some k → N ≤ b ∧ (s.boxes b ≠ none → g.β b = some k)
  gl : GlobOK w g.pr
theorem Ext.keep {μ : Bool} {B : Bd μ} {g g' : Gh} {s s' : S} {w w' : World} {N : Nat} (h : Ext B g s w N) (hk : Keeps w g w' g') (hs : ∀ b, s'.boxes b ≠ none → s.boxes b ≠ none) : Ext B g' s' w' N :=
  ⟨fun b k e => ⟨(h.lb b k e).1, fun hb => hk.β b k ((h.lb b k e).2 (hs b hb))⟩, h.gl.keeps hk.pr⟩
structure Rel {μ : Bool} (B : Bd μ) (g : Gh) (s : S) (w : World) (a : Act) (N : Nat) : Prop where
  df : a.defers = []
  nt : a.tmps.size = N
  hB : B.n ≤ w.heap.size
  tm : ∀ t, VR w g (s.tmps t) (a.tmps.getD t undef)
  prlt : ∀ k o, g.pr k o → k < w.heap.size
  bx0 : ∀ b, s.boxes b = none → g.β b = none
  bx : ∀ b cs, s.boxes b = some cs → ∃ k, g.β b = some k ∧ BoxOK B w g cs k
  binj : ∀ b b' k, g.β b = some k → g.β b' = some k → b = b'
  tk0 : ∀ t, s.toks t = .abs → g.τ t = none
  tk : ∀ t sh T l, s.toks t = .live sh T l → ∃ tg, g.τ t = some tg ∧ TokOK B w g.pr sh T l tg
  tinj : ∀ t t' tg tg' k, (s.toks t).isLive = true → (s.toks t').isLive = true → g.τ t = some tg → g.τ t' = some tg' → tg.blk = some k → tg'.blk = some k → t = t'
  tbx : ∀ t tg k b, (s.toks t).isLive = true → g.τ t = some tg → tg.blk = some k → g.β b ≠ some k
  prB : ∀ k o, ¬ B.mine k → (g.pr k o ↔ B.pr k o)
  ex : Ext B g s w N
  mp : ∀ t K l, s.toks t = .mlive K l → ∃ tg, g.τ t = some tg ∧ MapOK B w g.pr K l tg
end Go.Proofs.Ytjonpmckkmnemaa.Th
set_option linter.unusedVariables false
set_option linter.unusedSimpArgs false
namespace Go.Proofs.Ytjonpmckkmnemaa.Th
open Go Go.RowKit
theorem cell_heap {w w' : World} {k : Nat} (h : w'.heap[k]? = w.heap[k]?) (o : Nat) : w'.cell? ⟨k, o, none⟩ = w.cell? ⟨k, o, none⟩ := by
  simp [World.cell?, h]
theorem cell_of {w : World} {k : Nat} {us : Array Value} {e : TypeId} {fr : Nat × Nat} (h : w.heap[k]? = some (.cells us e fr)) (o : Nat) : w.cell? ⟨k, o, none⟩ = us[o]? := by
  simp [World.cell?, h]
theorem frozen_of {w : World} {k : Nat} {us : Array Value} {e : TypeId} {fr : Nat × Nat} (h : w.heap[k]? = some (.cells us e fr)) (ht : Thawed fr us.size) {o : Nat} (ho : o < us.size) : w.frozen? ⟨k, o, none⟩ = false := by
  simp only [World.frozen?, h]; exact ht.2 o ho
theorem RowOf.keeps {w w' : World} {pr pr' : Nat → Nat → Prop} (hk : PrKeeps w pr w' pr') {T : Ty} {l : List T.den} {us : Array Value} (h : RowOf w pr T l us) : RowOf w' pr' T l us :=
  fun j x hx => let ⟨vs, a, b, c⟩ := h j x hx; ⟨vs, a, b, c.keeps hk⟩
theorem MapOK.keep {μ : Bool} {B : Bd μ} {w w' : World} {pr pr' : Nat → Nat → Prop} {K : Ty} {l : List K.den} {tg : TG} (h : MapOK B w pr K l tg) (hk : PrKeeps w pr w' pr')
    (hh : ∀ k, tg.blk = some k → k < w.heap.size → w'.heap[k]? = w.heap[k]? ∧ ∀ o, pr' k o → pr k o) : MapOK B w' pr' K l tg := by
  obtain ⟨k, e1, e2, e3, ⟨es, c, e4, e5⟩, e6⟩ := h.it
  obtain ⟨a, b⟩ := hh k e2 (Array.getElem?_eq_some_iff.1 e4).1
  exact ⟨k, e1, e2, e3, ⟨es, c, a.trans e4, e5.keeps hk⟩, fun o p => e6 o (b o p)⟩
section
variable {μ : Bool} {B : Bd μ} {N : Nat} {g g' : Gh} {s : S} {w w' : World} {a : Act}
theorem Rel.tmp (h : Rel B g s w a N) {t : Nat} {v : AV} {u : Value} (hv : VR w g v u) (ht : t < N) : Rel B g (s.put (.tmp t v)) w (a.put (some t) u) N where
  df := h.df
  nt := by simp [Act.put, h.nt]
  hB := h.hB
  tm i := by
    by_cases e : i = t
    · subst e
      have : i < a.tmps.size := by rw [h.nt]; exact ht
      simpa [S.put, upd_same, Act.put, Array.getD, this] using hv
    · have := h.tm i
      simpa [S.put, upd_ne _ _ _ _ e, Act.put, Array.getD_eq_getD_getElem?, Array.getElem?_setIfInBounds_ne (Ne.symm e)] using this
  prlt := h.prlt
  bx0 := h.bx0
  bx := h.bx
  binj := h.binj
  tk0 := h.tk0
  tk := h.tk
  tinj := h.tinj
  tbx := h.tbx
  prB := h.prB
  ex := h.ex.keep (Keeps.refl _ _) (fun _ h => h)
  mp := h.mp
theorem Rel.grow (h : Rel B g s w a N) (hs : w.heap.size ≤ w'.heap.size) (hh : ∀ k, k < w.heap.size → w'.heap[k]? = w.heap[k]?) {pr' : Nat → Nat → Prop}
    (hp : ∀ k o, k < w.heap.size → (pr' k o ↔ g.pr k o)) (hl : ∀ k o, pr' k o → k < w'.heap.size) :
    Rel B { g with pr := pr' } s w' a N ∧ Keeps w g w' { g with pr := pr' } := by
  have hk : Keeps w g w' { g with pr := pr' } :=
    ⟨fun k o p => ⟨(hp k o (h.prlt k o p)).2 p, cell_heap (hh k (h.prlt k o p)) o⟩, fun _ _ x => x, fun _ _ x => x⟩
  have lt_of : ∀ {k : Nat} {o : Obj}, w.heap[k]? = some o → k < w.heap.size := fun e => (Array.getElem?_eq_some_iff.1 e).1
  refine ⟨⟨h.df, h.nt, Nat.le_trans h.hB hs, fun t => (h.tm t).keeps hk, hl, h.bx0, ?_, h.binj, h.tk0, ?_, h.tinj, h.tbx, fun k o hb => (hp k o (Nat.lt_of_lt_of_le (Bd.mine_lt hb) h.hB)).trans (h.prB k o hb), h.ex.keep hk (fun _ h => h), fun t K l e => let ⟨tg, e1, ok⟩ := h.mp t K l e; ⟨tg, e1, ok.keep hk.pr fun k _ hlt => ⟨hh k hlt, fun o p => (hp k o hlt).1 p⟩⟩⟩, hk⟩
  · intro b cs hb
    obtain ⟨k, e, ab, fr, us, el, f, r1, r2, r3⟩ := h.bx b cs hb
    have hlt := lt_of r1
    exact ⟨k, e, ab, fun o p => fr o ((hp k o hlt).1 p), us, el, f, (hh k hlt).trans r1, r2, r3.imp fun _ _ => LR.keeps hk⟩
  · intro t sh T l ht
    obtain ⟨tg, e, ez, r⟩ := h.tk t sh T l ht
    refine ⟨tg, e, ez, r.imp id ?_⟩
    rintro ⟨k, cap, a1, a2, a3⟩
    obtain ⟨us, el, f, r1, r2, r3, r4⟩ := a3.row
    have hlt := lt_of r1
    exact ⟨k, cap, a1, a2, a3.above, a3.len, ⟨us, el, f, (hh k hlt).trans r1, r2, r3, r4.keeps hk.pr⟩,
      fun o p => a3.prlt o ((hp k o hlt).1 p), fun e o p => (hp k o hlt).2 (a3.prsh e o p), fun e o p => a3.prno e o ((hp k o hlt).1 p)⟩
def Remark (w w' : World) : Prop := w'.heap.size = w.heap.size ∧ ∀ k : Nat, w'.heap[k]? = w.heap[k]? ∨ ∃ us e fr fr', w.heap[k]? = some (.cells us e fr) ∧ w'.heap[k]? = some (.cells us e fr') ∧ (Thawed fr us.size → Thawed fr' us.size)
theorem Remark.row (h : Remark w w') {k : Nat} {us : Array Value} {e : TypeId} {fr : Nat × Nat} (hr : w.heap[k]? = some (.cells us e fr)) (ht : Thawed fr us.size) : ∃ fr', w'.heap[k]? = some (.cells us e fr') ∧ Thawed fr' us.size := by
  rcases h.2 k with e1 | ⟨us', e', fr1, fr2, a1, a2, a3⟩
  · exact ⟨fr, e1.trans hr, ht⟩
  · rw [hr] at a1; cases a1
    exact ⟨fr2, a2, a3 ht⟩
theorem Remark.cell (h : Remark w w') (k o : Nat) : w'.cell? ⟨k, o, none⟩ = w.cell? ⟨k, o, none⟩ := by
  rcases h.2 k with e1 | ⟨us', e', fr1, fr2, a1, a2, _⟩
  · exact cell_heap e1 o
  · rw [cell_of a1, cell_of a2]
theorem Rel.remark (h : Rel B g s w a N) (hm : Remark w w') (hz : ∀ t T l, s.toks t = .live false T l → T ≠ .int .u8 → ∀ tg k, g.τ t = some tg → tg.blk = some k → w'.heap[k]? = w.heap[k]?) : Rel B g s w' a N ∧ Keeps w g w' g := by
  have hk : Keeps w g w' g := ⟨fun k o p => ⟨p, hm.cell k o⟩, fun _ _ x => x, fun _ _ x => x⟩
  refine ⟨⟨h.df, h.nt, by rw [hm.1]; exact h.hB, fun t => (h.tm t).keeps hk, fun k o p => by rw [hm.1]; exact h.prlt k o p, h.bx0, ?_, h.binj, h.tk0, ?_, h.tinj, h.tbx, h.prB, h.ex.keep hk (fun _ h => h), fun t K l e => let ⟨tg, e1, ok⟩ := h.mp t K l e; ⟨tg, e1, ok.keep hk.pr fun k hb _ => ⟨?_, fun o p => p⟩⟩⟩, hk⟩
  · intro b cs hb
    obtain ⟨k, e, ab, fr, us, el, f, r1, r2, r3⟩ := h.bx b cs hb
    obtain ⟨f', q1, q2⟩ := hm.row r1 r2
    exact ⟨k, e, ab, fr, us, el, f', q1, q2, r3.imp fun _ _ => LR.keeps hk⟩
  · intro t sh T l ht
    obtain ⟨tg, e, ez, r⟩ := h.tk t sh T l ht
    refine ⟨tg, e, ez, r.imp id ?_⟩
    rintro ⟨k, cap, a1, a2, a3⟩
    obtain ⟨us, el, f, r1, r2, r3, r4⟩ := a3.row
    obtain ⟨f', q1, q2⟩ := hm.row r1 r2.1
    exact ⟨k, cap, a1, a2, a3.above, a3.len, ⟨us, el, f', q1, ⟨q2, fun e1 e2 => by
      subst e1
      have h1 := hz t T l ht e2 tg k e a2
      rw [q1, r1] at h1
      cases h1
      exact r2.2 rfl e2⟩, r3, r4.keeps hk.pr⟩, a3.prlt, a3.prsh, a3.prno⟩
  · obtain ⟨k', _, b2, _, ⟨es, c, b4, _⟩, _⟩ := ok.it
    rw [hb] at b2; cases b2
    rcases hm.2 k with q | ⟨us, el, fr, fr', q1, _⟩
    · exact q
    · rw [b4] at q1; cases q1
theorem Rel.heap (h : Rel B g s w a N) (hh : w'.heap = w.heap) : Rel B g s w' a N ∧ Keeps w g w' g := by
  have := h.grow (w' := w') (pr' := g.pr) (by rw [hh]; exact Nat.le_refl _) (fun k _ => by rw [hh]) (fun _ _ _ => Iff.rfl) (fun k o p => by rw [hh]; exact h.prlt k o p)
  exact this
theorem Rel.alloc (h : Rel B g s w a N) (o : Obj) : Rel B g s (w.alloc o) a N ∧ Keeps w g (w.alloc o) g :=
  have hs : (w.alloc o).heap.size = w.heap.size + 1 := by show (w.heap.push o).size = _; exact Array.size_push o
  h.grow (pr' := g.pr) (by omega) (fun k hk => Below.heap_alloc w o k hk) (fun _ _ _ => Iff.rfl) (fun k o' p => by have := h.prlt k o' p; omega)
structure Fresh (g : Gh) (s : S) (k : Nat) : Prop where
  β : ∀ b, g.β b ≠ some k
  τ : ∀ t tg, (s.toks t).isLive = true → g.τ t = some tg → tg.blk ≠ some k
theorem Rel.fresh (h : Rel B g s w a N) {k : Nat} (hk : w.heap.size ≤ k) : Fresh g s k where
  β b e := by
    cases hb : s.boxes b with
    | none => rw [h.bx0 b hb] at e; cases e
    | some cs =>
      obtain ⟨k', e', r⟩ := h.bx b cs hb
      rw [e] at e'; cases e'
      obtain ⟨us, el, f, r1, _⟩ := r.row
      have := (Array.getElem?_eq_some_iff.1 r1).1; omega
  τ t tg hl ht hb := by
    cases hs : s.toks t with
    | abs => rw [hs] at hl; cases hl
    | dead => rw [hs] at hl; cases hl
    | mlive K l =>
      obtain ⟨tg', e, ok⟩ := h.mp t K l hs
      rw [ht] at e; cases e
      obtain ⟨k', _, e2, _, ⟨es, c, e4, _⟩, _⟩ := ok.it
      rw [hb] at e2; cases e2
      have := (Array.getElem?_eq_some_iff.1 e4).1; omega
    | live sh T l =>
      obtain ⟨tg', e, _, r⟩ := h.tk t sh T l hs
      rw [ht] at e; cases e
      rcases r with ⟨_, e, _⟩ | ⟨k', cap, _, e, r⟩
      · rw [hb] at e; cases e
      · rw [hb] at e; cases e
        obtain ⟨us, el, f, r1, _⟩ := r.row
        have := (Array.getElem?_eq_some_iff.1 r1).1; omega
theorem Rel.newBox (h : Rel B g s w a N) {t k : Nat} {cs : List AV} (htN : t < N) (ht : s.boxes t = none) (hf : Fresh g s k) (hb : BoxOK B w g cs k) :
    Rel B { g with β := upd g.β t (some k) } (s.put (.box t cs)) w a N ∧ Keeps w g w { g with β := upd g.β t (some k) } := by
  have hβ := h.bx0 t ht
  have hk : Keeps w g w { g with β := upd g.β t (some k) } :=
    ⟨fun _ _ p => ⟨p, rfl⟩, fun b x e => by by_cases eb : b = t
                                            · subst eb; rw [hβ] at e; cases e
                                            · simpa [upd_ne _ _ _ _ eb] using e, fun _ _ x => x⟩
  refine ⟨⟨h.df, h.nt, h.hB, fun i => (h.tm i).keeps hk, h.prlt, ?_, ?_, ?_, h.tk0, ?_, h.tinj, ?_, h.prB, ⟨fun b x e => ⟨(h.ex.lb b x e).1, fun hb => ?_⟩, h.ex.gl.keeps hk.pr⟩, h.mp⟩, hk⟩
  · intro b e
    by_cases eb : b = t
    · subst eb; simp [S.put, upd_same] at e
    · simp only [S.put, upd_ne _ _ _ _ eb] at e ⊢; exact h.bx0 b e
  · intro b cs' e
    by_cases eb : b = t
    · subst eb
      simp only [S.put, upd_same] at e ⊢; cases e
      obtain ⟨x1, x2, us, el, f, r1, r2, r3⟩ := hb
      exact ⟨k, rfl, x1, x2, us, el, f, r1, r2, r3.imp fun _ _ => LR.keeps hk⟩
    · simp only [S.put, upd_ne _ _ _ _ eb] at e ⊢
      obtain ⟨k', e', x1, x2, us, el, f, r1, r2, r3⟩ := h.bx b cs' e
      exact ⟨k', e', x1, x2, us, el, f, r1, r2, r3.imp fun _ _ => LR.keeps hk⟩
  · intro b b' x e e'
    by_cases eb : b = t <;> by_cases eb' : b' = t
    · rw [eb, eb']
    · subst eb; simp only [upd_same, upd_ne _ _ _ _ eb'] at e e'; cases e; exact absurd e' (hf.β b')
    · subst eb'; simp only [upd_same, upd_ne _ _ _ _ eb] at e e'; cases e'; exact absurd e (hf.β b)
    · simp only [upd_ne _ _ _ _ eb, upd_ne _ _ _ _ eb'] at e e'; exact h.binj b b' x e e'
  · intro i sh T l e
    obtain ⟨tg, e1, e2, r⟩ := h.tk i sh T l e
    exact ⟨tg, e1, e2, r⟩
  · intro i tg x b hl e1 e2 e3
    by_cases eb : b = t
    · subst eb; simp only [upd_same] at e3; cases e3; exact hf.τ i tg hl e1 e2
    · simp only [upd_ne _ _ _ _ eb] at e3; exact h.tbx i tg x b hl e1 e2 e3
  · have hne : b ≠ t := by have := (h.ex.lb b x e).1; omega
    have hb' : s.boxes b ≠ none := by simpa [S.put, upd_ne _ _ _ _ hne] using hb
    show upd g.β t (some k) b = some x
    rw [upd_ne _ _ _ _ hne]; exact (h.ex.lb b x e).2 hb'
theorem Rel.newTok (h : Rel B g s w a N) {t : Nat} {sh : Bool} {T : Ty} {l : List T.den} {tg : TG} (ht : s.toks t = .abs) (hf : ∀ k, tg.blk = some k → Fresh g s k) (hok : TokOK B w g.pr sh T l tg) :
    Rel B { g with τ := upd g.τ t (some tg) } (s.put (.tok t (.live sh T l))) w a N ∧ Keeps w g w { g with τ := upd g.τ t (some tg) } := by
  have hτ := h.tk0 t ht
  have hk : Keeps w g w { g with τ := upd g.τ t (some tg) } :=
    ⟨fun _ _ p => ⟨p, rfl⟩, fun _ _ x => x, fun b x e => by by_cases eb : b = t
                                                            · subst eb; rw [hτ] at e; cases e
                                                            · simpa [upd_ne _ _ _ _ eb] using e⟩
  refine ⟨⟨h.df, h.nt, h.hB, fun i => (h.tm i).keeps hk, h.prlt, h.bx0, ?_, h.binj, ?_, ?_, ?_, ?_, h.prB, h.ex.keep hk (fun _ h => h), ?_⟩, hk⟩
  · intro b cs' e
    obtain ⟨k', e', x1, x2, us, el, f, r1, r2, r3⟩ := h.bx b cs' e
    exact ⟨k', e', x1, x2, us, el, f, r1, r2, r3.imp fun _ _ => LR.keeps hk⟩
  · intro b e
    by_cases eb : b = t
    · subst eb; simp [S.put, upd_same] at e
    · simp only [S.put, upd_ne _ _ _ _ eb] at e ⊢; exact h.tk0 b e
  · intro i sh' T' l' e
    by_cases eb : i = t
    · subst eb; simp only [S.put, upd_same] at e ⊢; cases e; exact ⟨tg, rfl, hok⟩
    · simp only [S.put, upd_ne _ _ _ _ eb] at e ⊢; exact h.tk i sh' T' l' e
  · intro i i' x x' k l1 l2 e1 e2 e3 e4
    by_cases eb : i = t <;> by_cases eb' : i' = t
    · rw [eb, eb']
    · subst eb; simp only [S.put, upd_same, upd_ne _ _ _ _ eb'] at l1 l2 e1 e2; cases e1; exact absurd e4 ((hf k e3).τ i' x' l2 e2)
    · subst eb'; simp only [S.put, upd_same, upd_ne _ _ _ _ eb] at l1 l2 e1 e2; cases e2; exact absurd e3 ((hf k e4).τ i x l1 e1)
    · simp only [S.put, upd_ne _ _ _ _ eb, upd_ne _ _ _ _ eb'] at l1 l2 e1 e2; exact h.tinj i i' x x' k l1 l2 e1 e2 e3 e4
  · intro i x k b hl e1 e2 e3
    by_cases eb : i = t
    · subst eb; simp only [upd_same] at e1; cases e1; exact (hf k e2).β b e3
    · simp only [S.put, upd_ne _ _ _ _ eb] at hl e1; exact h.tbx i x k b hl e1 e2 e3
  · intro b K l e
    by_cases eb : b = t
    · subst eb; simp [S.put, upd_same] at e
    · simp only [S.put, upd_ne _ _ _ _ eb] at e ⊢; exact h.mp b K l e
theorem Rel.newMap (h : Rel B g s w a N) {t : Nat} {K : Ty} {l : List K.den} {tg : TG} (ht : s.toks t = .abs) (hf : ∀ k, tg.blk = some k → Fresh g s k) (hok : MapOK B w g.pr K l tg) :
    Rel B { g with τ := upd g.τ t (some tg) } (s.put (.tok t (.mlive K l))) w a N ∧ Keeps w g w { g with τ := upd g.τ t (some tg) } := by
  have hτ := h.tk0 t ht
  have hk : Keeps w g w { g with τ := upd g.τ t (some tg) } :=
    ⟨fun _ _ p => ⟨p, rfl⟩, fun _ _ x => x, fun b x e => by by_cases eb : b = t
                                                            · subst eb; rw [hτ] at e; cases e
                                                            · simpa [upd_ne _ _ _ _ eb] using e⟩
  refine ⟨⟨h.df, h.nt, h.hB, fun i => (h.tm i).keeps hk, h.prlt, h.bx0, ?_, h.binj, ?_, ?_, ?_, ?_, h.prB, h.ex.keep hk (fun _ h => h), ?_⟩, hk⟩
  · intro b cs' e
    obtain ⟨k', e', x1, x2, us, el, f, r1, r2, r3⟩ := h.bx b cs' e
    exact ⟨k', e', x1, x2, us, el, f, r1, r2, r3.imp fun _ _ => LR.keeps hk⟩
  · intro b e
    by_cases eb : b = t
    · subst eb; simp [S.put, upd_same] at e
    · simp only [S.put, upd_ne _ _ _ _ eb] at e ⊢; exact h.tk0 b e
  · intro i sh' T' l' e
    by_cases eb : i = t
    · subst eb; simp [S.put, upd_same] at e
    · simp only [S.put, upd_ne _ _ _ _ eb] at e ⊢; exact h.tk i sh' T' l' e
  · intro i i' x x' k l1 l2 e1 e2 e3 e4
    by_cases eb : i = t <;> by_cases eb' : i' = t
    · rw [eb, eb']
    · subst eb; simp only [S.put, upd_same, upd_ne _ _ _ _ eb'] at l1 l2 e1 e2; cases e1; exact absurd e4 ((hf k e3).τ i' x' l2 e2)
    · subst eb'; simp only [S.put, upd_same, upd_ne _ _ _ _ eb] at l1 l2 e1 e2; cases e2; exact absurd e3 ((hf k e4).τ i x l1 e1)
    · simp only [S.put, upd_ne _ _ _ _ eb, upd_ne _ _ _ _ eb'] at l1 l2 e1 e2; exact h.tinj i i' x x' k l1 l2 e1 e2 e3 e4
  · intro i x k b hl e1 e2 e3
    by_cases eb : i = t
    · subst eb; simp only [upd_same] at e1; cases e1; exact (hf k e2).β b e3
    · simp only [S.put, upd_ne _ _ _ _ eb] at hl e1; exact h.tbx i x k b hl e1 e2 e3
  · intro b K' l' e
    by_cases eb : b = t
    · subst eb; simp only [S.put, upd_same] at e ⊢; cases e; exact ⟨tg, rfl, hok⟩
    · simp only [S.put, upd_ne _ _ _ _ eb] at e ⊢; exact h.mp b K' l' e
theorem Rel.kill (h : Rel B g s w a N) (t : Nat) (ht : s.toks t ≠ .abs) : Rel B g (s.put (.tok t .dead)) w a N := by
  refine ⟨h.df, h.nt, h.hB, h.tm, h.prlt, h.bx0, h.bx, h.binj, ?_, ?_, ?_, ?_, h.prB, h.ex.keep (Keeps.refl _ _) (fun _ h => h), fun b K l e => ?_⟩
  · intro b e
    by_cases eb : b = t
    · subst eb; simp [S.put, upd_same] at e
    · simp only [S.put, upd_ne _ _ _ _ eb] at e; exact h.tk0 b e
  · intro i sh' T' l' e
    by_cases eb : i = t
    · subst eb; simp only [S.put, upd_same] at e; cases e
    · simp only [S.put, upd_ne _ _ _ _ eb] at e; exact h.tk i sh' T' l' e
  · intro i i' x x' k l1 l2 e1 e2 e3 e4
    by_cases eb : i = t
    · subst eb; simp only [S.put, upd_same] at l1; cases l1
    · by_cases eb' : i' = t
      · subst eb'; simp only [S.put, upd_same] at l2; cases l2
      · simp only [S.put, upd_ne _ _ _ _ eb, upd_ne _ _ _ _ eb'] at l1 l2; exact h.tinj i i' x x' k l1 l2 e1 e2 e3 e4
  · intro i x k b hl e1 e2 e3
    by_cases eb : i = t
    · subst eb; simp only [S.put, upd_same] at hl; cases hl
    · simp only [S.put, upd_ne _ _ _ _ eb] at hl; exact h.tbx i x k b hl e1 e2 e3
  · by_cases eb : b = t
    · subst eb; simp [S.put, upd_same] at e
    · simp only [S.put, upd_ne _ _ _ _ eb] at e; exact h.mp b K l e
theorem Rel.share (h : Rel B g s w a N) {t : Nat} {T : Ty} {l : List T.den} (ht : s.toks t = .live false T l) :
    ∃ g' tg, Rel B g' (s.put (.tok t (.live true T l))) w a N ∧ Keeps w g w g' ∧ g.τ t = some tg ∧ TR w g'.pr (.slice T) l [tg.val] := by
  obtain ⟨tg, e, ez, r⟩ := h.tk t false T l ht
  let blk : Nat → Prop := fun k => tg.blk = some k
  let pr' : Nat → Nat → Prop := fun k o => g.pr k o ∨ (blk k ∧ o < l.length * T.size)
  have hk : Keeps w g w { g with pr := pr' } := ⟨fun _ _ p => ⟨.inl p, rfl⟩, fun _ _ x => x, fun _ _ x => x⟩
  have hlive : (s.toks t).isLive = true := by rw [ht]; rfl
  have hprB : ∀ k o, ¬ B.mine k → (pr' k o ↔ B.pr k o) := by
    intro k o hb
    rw [← h.prB k o hb]
    refine ⟨?_, .inl⟩
    rintro (p | ⟨p, _⟩)
    · exact p
    · rcases r with ⟨_, e', _⟩ | ⟨k', cap, _, e', r⟩
      · rw [show tg.blk = some k from p] at e'; cases e'
      · rw [show tg.blk = some k from p] at e'; cases e'
        exact absurd r.above hb
  refine ⟨{ g with pr := pr' }, tg, ⟨h.df, h.nt, h.hB, fun i => (h.tm i).keeps hk, ?_, h.bx0, ?_, h.binj, ?_, ?_, ?_, ?_, hprB, h.ex.keep hk (fun _ h => h), fun i K l' ei => ?_⟩, hk, e, ?_⟩
  · rintro k o (p | ⟨p, _⟩)
    · exact h.prlt k o p
    · rcases r with ⟨_, e', _⟩ | ⟨k', cap, _, e', r⟩
      · rw [show tg.blk = some k from p] at e'; cases e'
      · rw [show tg.blk = some k from p] at e'; cases e'
        obtain ⟨us, el, f, r1, _⟩ := r.row
        exact (Array.getElem?_eq_some_iff.1 r1).1
  · intro b cs' eb
    obtain ⟨k', e', x1, x2, us, el, f, r1, r2, r3⟩ := h.bx b cs' eb
    refine ⟨k', e', x1, ?_, us, el, f, r1, r2, r3.imp fun _ _ => LR.keeps hk⟩
    rintro o (p | ⟨p, _⟩)
    · exact x2 o p
    · exact (h.tbx t tg k' b hlive e p e').elim
  · intro b eb
    by_cases hb : b = t
    · subst hb; simp [S.put, upd_same] at eb
    · simp only [S.put, upd_ne _ _ _ _ hb] at eb; exact h.tk0 b eb
  · intro i sh' T' l' ei
    by_cases hb : i = t
    · subst hb
      simp only [S.put, upd_same] at ei; cases ei
      refine ⟨tg, e, ez, r.imp id ?_⟩
      rintro ⟨k, cap, a1, a2, a3⟩
      obtain ⟨us, el, f, r1, r2, r3, r4⟩ := a3.row
      refine ⟨k, cap, a1, a2, a3.above, a3.len, ⟨us, el, f, r1, ⟨r2.1, fun e => by cases e⟩, r3, r4.keeps hk.pr⟩, ?_, fun _ o p => .inr ⟨a2, p⟩, fun e => by cases e⟩
      rintro o (p | ⟨_, p⟩)
      · exact absurd p (a3.prno rfl o)
      · exact p
    · simp only [S.put, upd_ne _ _ _ _ hb] at ei
      obtain ⟨tg', e1, e2, r'⟩ := h.tk i sh' T' l' ei
      refine ⟨tg', e1, e2, r'.imp id ?_⟩
      rintro ⟨k, cap, a1, a2, a3⟩
      obtain ⟨us, el, f, r1, r2, r3, r4⟩ := a3.row
      have hne : ∀ o, pr' k o → g.pr k o := by
        rintro o (p | ⟨p, _⟩)
        · exact p
        · exact absurd (h.tinj i t tg' tg k (by rw [ei]; rfl) hlive e1 e a2 p) hb
      exact ⟨k, cap, a1, a2, a3.above, a3.len, ⟨us, el, f, r1, r2, r3, r4.keeps hk.pr⟩, fun o p => a3.prlt o (hne o p), fun e o p => .inl (a3.prsh e o p), fun e o p => a3.prno e o (hne o p)⟩
  · intro i i' x x' k l1 l2 e1 e2 e3 e4
    refine h.tinj i i' x x' k ?_ ?_ e1 e2 e3 e4
    · by_cases hb : i = t
      · rw [hb]; exact hlive
      · simpa [S.put, upd_ne _ _ _ _ hb] using l1
    · by_cases hb : i' = t
      · rw [hb]; exact hlive
      · simpa [S.put, upd_ne _ _ _ _ hb] using l2
  · intro i x k b hl e1 e2 e3
    refine h.tbx i x k b ?_ e1 e2 e3
    by_cases hb : i = t
    · rw [hb]; exact hlive
    · simpa [S.put, upd_ne _ _ _ _ hb] using hl
  · by_cases hb : i = t
    · subst hb; simp [S.put, upd_same] at ei
    · simp only [S.put, upd_ne _ _ _ _ hb] at ei
      obtain ⟨tg', e1, ok⟩ := h.mp i K l' ei
      refine ⟨tg', e1, ok.keep hk.pr fun k hbk _ => ⟨rfl, ?_⟩⟩
      rintro o (p | ⟨p, _⟩)
      · exact p
      · exact absurd (h.tinj i t tg' tg k (by rw [ei]; rfl) hlive e1 e hbk p) hb
  · rcases r with ⟨a1, a2, rfl⟩ | ⟨k, cap, a1, a2, a3⟩
    · rw [a1]; exact TR_nilsl _ _ _
    · obtain ⟨us, el, f, r1, r2, r3, r4⟩ := a3.row
      refine ⟨some ⟨k, 0, none⟩, cap, by rw [a1], ⟨a3.len, fun e => by cases e⟩, fun j x hx => ?_⟩
      obtain ⟨vs, b1, b2, b3⟩ := r4 j x hx
      refine ⟨⟨k, 0, none⟩, vs, rfl, b1, fun i v hv => ?_, b3.keeps hk.pr⟩
      have hadd : (⟨k, 0, none⟩ : Addr).add (j * T.size + i) = ⟨k, j * T.size + i, none⟩ := by unfold Addr.add; split <;> simp_all
      rw [hadd]
      refine ⟨by rw [cell_of r1]; exact b2 i v hv, .inr ⟨a2, ?_⟩⟩
      have hj : j < l.length := (List.getElem?_eq_some_iff.1 hx).1
      have hi : i < T.size := by rw [← b1]; exact (List.getElem?_eq_some_iff.1 hv).1
      calc j * T.size + i < j * T.size + T.size := by omega
        _ = (j + 1) * T.size := by rw [Nat.add_mul]; omega
        _ ≤ l.length * T.size := Nat.mul_le_mul_right _ (by omega)
theorem Rel.shared (h : Rel B g s w a N) {t : Nat} {T : Ty} {l : List T.den} (ht : s.toks t = .live true T l) : ∃ tg, g.τ t = some tg ∧ TR w g.pr (.slice T) l [tg.val] := by
  obtain ⟨tg, e, ez, r⟩ := h.tk t true T l ht
  refine ⟨tg, e, ?_⟩
  rcases r with ⟨a1, a2, rfl⟩ | ⟨k, cap, a1, a2, a3⟩
  · rw [a1]; exact TR_nilsl _ _ _
  · obtain ⟨us, el, f, r1, r2, r3, r4⟩ := a3.row
    refine ⟨some ⟨k, 0, none⟩, cap, by rw [a1], ⟨a3.len, fun e => by cases e⟩, fun j x hx => ?_⟩
    obtain ⟨vs, b1, b2, b3⟩ := r4 j x hx
    refine ⟨⟨k, 0, none⟩, vs, rfl, b1, fun i v hv => ?_, b3⟩
    have hadd : (⟨k, 0, none⟩ : Addr).add (j * T.size + i) = ⟨k, j * T.size + i, none⟩ := by unfold Addr.add; split <;> simp_all
    rw [hadd]
    refine ⟨by rw [cell_of r1]; exact b2 i v hv, a3.prsh rfl _ ?_⟩
    have hj : j < l.length := (List.getElem?_eq_some_iff.1 hx).1
    have hi : i < T.size := by rw [← b1]; exact (List.getElem?_eq_some_iff.1 hv).1
    calc j * T.size + i < j * T.size + T.size := by omega
      _ = (j + 1) * T.size := by rw [Nat.add_mul]; omega
      _ ≤ l.length * T.size := Nat.mul_le_mul_right _ (by omega)
def Only (k : Nat) (w w' : World) : Prop := w'.heap.size = w.heap.size ∧ ∀ i, i ≠ k → w'.heap[i]? = w.heap[i]?
theorem Rel.other (h : Rel B g s w a N) {k : Nat} (hf : Fresh g s k) (ho : Only k w w') (hp : ∀ o, g.pr k o → w'.cell? ⟨k, o, none⟩ = w.cell? ⟨k, o, none⟩) :
    Rel B g s w' a N ∧ Keeps w g w' g := by
  have hk : Keeps w g w' g := by
    refine ⟨fun i o p => ⟨p, ?_⟩, fun _ _ x => x, fun _ _ x => x⟩
    by_cases e : i = k
    · subst e; exact hp o p
    · exact cell_heap (ho.2 i e) o
  refine ⟨⟨h.df, h.nt, by rw [ho.1]; exact h.hB, fun t => (h.tm t).keeps hk, fun i o p => by rw [ho.1]; exact h.prlt i o p, h.bx0, ?_, h.binj, h.tk0, ?_, h.tinj, h.tbx, h.prB, h.ex.keep hk (fun _ h => h), fun t K l e => let ⟨tg, e1, ok⟩ := h.mp t K l e; ⟨tg, e1, ok.keep hk.pr fun i hb _ => ⟨ho.2 i fun e' => hf.τ t tg (by rw [e]; rfl) e1 (by rw [hb, e']), fun o p => p⟩⟩⟩, hk⟩
  · intro b cs hb
    obtain ⟨i, e, ab, fr, us, el, f, r1, r2, r3⟩ := h.bx b cs hb
    have hne : i ≠ k := fun e' => hf.β b (by rw [e, e'])
    exact ⟨i, e, ab, fr, us, el, f, (ho.2 i hne).trans r1, r2, r3.imp fun _ _ => LR.keeps hk⟩
  · intro t sh T l ht
    obtain ⟨tg, e, ez, r⟩ := h.tk t sh T l ht
    refine ⟨tg, e, ez, r.imp id ?_⟩
    rintro ⟨i, cap, a1, a2, a3⟩
    have hne : i ≠ k := fun e' => hf.τ t tg (by rw [ht]; rfl) e (by rw [a2, e'])
    obtain ⟨us, el, f, r1, r2, r3, r4⟩ := a3.row
    exact ⟨i, cap, a1, a2, a3.above, a3.len, ⟨us, el, f, (ho.2 i hne).trans r1, r2, r3, r4.keeps hk.pr⟩, a3.prlt, a3.prsh, a3.prno⟩
theorem Rel.setBox (h : Rel B g s w a N) {b k : Nat} {cs cs' : List AV} (hb : s.boxes b = some cs) (hβ : g.β b = some k) (ho : Only k w w')
    {us : Array Value} {e : TypeId} {fr : Nat × Nat} (hr : w'.heap[k]? = some (.cells us e fr)) (ht : Thawed fr us.size) (hc : All2 (LR w g) cs' us.toList)
    (hp : ∀ o, g.pr k o → w'.cell? ⟨k, o, none⟩ = w.cell? ⟨k, o, none⟩) (hfz : ∀ o, g.pr k o → ∃ v, cs'[o]? = some (.fz v)) :
    Rel B g (s.put (.box b cs')) w' a N ∧ Keeps w g w' g := by
  obtain ⟨k', e', ok⟩ := h.bx b cs hb
  rw [hβ] at e'; cases e'
  have hk : Keeps w g w' g := by
    refine ⟨fun i o p => ⟨p, ?_⟩, fun _ _ x => x, fun _ _ x => x⟩
    by_cases e : i = k
    · subst e; exact hp o p
    · exact cell_heap (ho.2 i e) o
  refine ⟨⟨h.df, h.nt, by rw [ho.1]; exact h.hB, fun t => (h.tm t).keeps hk, fun i o p => by rw [ho.1]; exact h.prlt i o p, ?_, ?_, h.binj, h.tk0, ?_, h.tinj, h.tbx, h.prB, h.ex.keep hk (fun b' hb' => ?_), fun t K l e => let ⟨tg, e1, ok⟩ := h.mp t K l e; ⟨tg, e1, ok.keep hk.pr fun i hi _ => ⟨ho.2 i fun e' => h.tbx t tg k b (by rw [show s.toks t = _ from e]; rfl) e1 (by rw [hi, e']) hβ, fun o p => p⟩⟩⟩, hk⟩
  · intro b' e'
    by_cases eb : b' = b
    · subst eb; simp [S.put, upd_same] at e'
    · simp only [S.put, upd_ne _ _ _ _ eb] at e'; exact h.bx0 b' e'
  · intro b' cs2 hb'
    by_cases eb : b' = b
    · subst eb
      simp only [S.put, upd_same] at hb'; cases hb'
      exact ⟨k, hβ, ok.above, hfz, us, e, fr, hr, ht, hc.imp fun _ _ => LR.keeps hk⟩
    · simp only [S.put, upd_ne _ _ _ _ eb] at hb'
      obtain ⟨i, e, ab, fr, us, el, f, r1, r2, r3⟩ := h.bx b' cs2 hb'
      have hne : i ≠ k := fun e' => eb (h.binj b' b k (by rw [e, e']) hβ)
      exact ⟨i, e, ab, fr, us, el, f, (ho.2 i hne).trans r1, r2, r3.imp fun _ _ => LR.keeps hk⟩
  · intro t sh T l ht
    obtain ⟨tg, e, ez, r⟩ := h.tk t sh T l ht
    refine ⟨tg, e, ez, r.imp id ?_⟩
    rintro ⟨i, cap, a1, a2, a3⟩
    have hl : (s.toks t).isLive = true := by rw [show s.toks t = _ from ht]; rfl
    have hne : i ≠ k := fun e' => h.tbx t tg k b hl e (by rw [a2, e']) hβ
    obtain ⟨us, el, f, r1, r2, r3, r4⟩ := a3.row
    exact ⟨i, cap, a1, a2, a3.above, a3.len, ⟨us, el, f, (ho.2 i hne).trans r1, r2, r3, r4.keeps hk.pr⟩, a3.prlt, a3.prsh, a3.prno⟩
  · by_cases eb : b' = b
    · rw [eb, hb]; simp
    · simpa [S.put, upd_ne _ _ _ _ eb] using hb'
theorem Rel.setTok (h : Rel B g s w a N) {t : Nat} {T : Ty} {l l' : List T.den} (hs : s.toks t = .live false T l) {tg : TG} {k cap : Nat} (hτ : g.τ t = some tg)
    (hv : tg.val = .slice (some ⟨k, 0, none⟩) l.length cap) (hb : tg.blk = some k) (hlen : l'.length = l.length) (ho : Only k w w')
    {us : Array Value} {e : TypeId} {fr : Nat × Nat} (hr : w'.heap[k]? = some (.cells us e fr)) (ht : ThawedT false T fr us.size) (hsz : cap * T.size ≤ us.size) (hrow : RowOf w g.pr T l' us) :
    Rel B g (s.put (.tok t (.live false T l'))) w' a N ∧ Keeps w g w' g := by
  obtain ⟨tg', e', ez, r⟩ := h.tk t false T l hs
  rw [hτ] at e'; cases e'
  have ok : TokRow B w g.pr false T l k cap := by
    rcases r with ⟨_, x, _⟩ | ⟨k', cap', x1, x2, x3⟩
    · rw [hb] at x; cases x
    · rw [hv] at x1; cases x1; exact x3
  have hlive : (s.toks t).isLive = true := by rw [hs]; rfl
  have hk : Keeps w g w' g := by
    refine ⟨fun i o p => ⟨p, ?_⟩, fun _ _ x => x, fun _ _ x => x⟩
    by_cases e : i = k
    · subst e; exact absurd p (ok.prno rfl o)
    · exact cell_heap (ho.2 i e) o
  refine ⟨⟨h.df, h.nt, by rw [ho.1]; exact h.hB, fun t => (h.tm t).keeps hk, fun i o p => by rw [ho.1]; exact h.prlt i o p, h.bx0, ?_, h.binj, ?_, ?_, ?_, ?_, h.prB, h.ex.keep hk (fun _ h => h), fun i K l2 ei => ?_⟩, hk⟩
  · intro b' cs2 hb'
    obtain ⟨i, e, ab, fr, us, el, f, r1, r2, r3⟩ := h.bx b' cs2 hb'
    have hne : i ≠ k := fun e' => h.tbx t tg k b' hlive hτ hb (by rw [e, e'])
    exact ⟨i, e, ab, fr, us, el, f, (ho.2 i hne).trans r1, r2, r3.imp fun _ _ => LR.keeps hk⟩
  · intro b eb
    by_cases hb' : b = t
    · subst hb'; simp [S.put, upd_same] at eb
    · simp only [S.put, upd_ne _ _ _ _ hb'] at eb; exact h.tk0 b eb
  · intro i sh' T' l2 ei
    by_cases hb' : i = t
    · subst hb'
      simp only [S.put, upd_same] at ei; cases ei
      refine ⟨tg, hτ, ez, .inr ⟨k, cap, by rw [hv, hlen], hb, ok.above, by rw [hlen]; exact ok.len, ⟨us, e, fr, hr, ht, hsz, hrow.keeps hk.pr⟩, fun o p => absurd p (ok.prno rfl o), (fun x => by cases x), ok.prno⟩⟩
    · simp only [S.put, upd_ne _ _ _ _ hb'] at ei
      obtain ⟨tg', e1, e2, r'⟩ := h.tk i sh' T' l2 ei
      refine ⟨tg', e1, e2, r'.imp id ?_⟩
      rintro ⟨j, cap', a1, a2, a3⟩
      have hne : j ≠ k := fun e' => hb' (h.tinj i t tg' tg k (by rw [ei]; rfl) hlive e1 hτ (by rw [a2, e']) hb)
      obtain ⟨us, el, f, r1, r2, r3, r4⟩ := a3.row
      exact ⟨j, cap', a1, a2, a3.above, a3.len, ⟨us, el, f, (ho.2 j hne).trans r1, r2, r3, r4.keeps hk.pr⟩, a3.prlt, a3.prsh, a3.prno⟩
  · intro i i' x x' k l1 l2 e1 e2 e3 e4
    refine h.tinj i i' x x' k ?_ ?_ e1 e2 e3 e4
    · by_cases hb : i = t
      · rw [hb]; exact hlive
      · simpa [S.put, upd_ne _ _ _ _ hb] using l1
    · by_cases hb : i' = t
      · rw [hb]; exact hlive
      · simpa [S.put, upd_ne _ _ _ _ hb] using l2
  · intro i x k b hl e1 e2 e3
    refine h.tbx i x k b ?_ e1 e2 e3
    by_cases hb : i = t
    · rw [hb]; exact hlive
    · simpa [S.put, upd_ne _ _ _ _ hb] using hl
  · by_cases hb' : i = t
    · subst hb'; simp [S.put, upd_same] at ei
    · simp only [S.put, upd_ne _ _ _ _ hb'] at ei
      obtain ⟨tg', e1, ok'⟩ := h.mp i K l2 ei
      exact ⟨tg', e1, ok'.keep hk.pr fun j hj _ => ⟨ho.2 j fun e' => hb' (h.tinj i t tg' tg k (by rw [ei]; rfl) hlive e1 hτ (by rw [hj, e']) hb), fun o p => p⟩⟩
theorem Rel.setMap (h : Rel B g s w a N) {t : Nat} {K : Ty} {l l' : List K.den} (hs : s.toks t = .mlive K l) {tg : TG} {k : Nat} (hτ : g.τ t = some tg) (hb : tg.blk = some k) (ho : Only k w w')
    {es : Array MapEntry} {c : Nat} (hr : w'.heap[k]? = some (.map es c)) (hrow : MapRow w g.pr K l' es.toList) :
    Rel B g (s.put (.tok t (.mlive K l'))) w' a N ∧ Keeps w g w' g := by
  obtain ⟨tg', e', ok⟩ := h.mp t K l hs
  rw [hτ] at e'; cases e'
  obtain ⟨k', b1, b2, b3, _, b6⟩ := ok.it
  rw [hb] at b2; cases b2
  have hlive : (s.toks t).isLive = true := by rw [hs]; rfl
  have hk : Keeps w g w' g := by
    refine ⟨fun i o p => ⟨p, ?_⟩, fun _ _ x => x, fun _ _ x => x⟩
    by_cases e : i = k
    · subst e; exact absurd p (b6 o)
    · exact cell_heap (ho.2 i e) o
  refine ⟨⟨h.df, h.nt, by rw [ho.1]; exact h.hB, fun t => (h.tm t).keeps hk, fun i o p => by rw [ho.1]; exact h.prlt i o p, h.bx0, ?_, h.binj, ?_, ?_, ?_, ?_, h.prB, h.ex.keep hk (fun _ h => h), fun i K2 l2 ei => ?_⟩, hk⟩
  · intro b' cs2 hb'
    obtain ⟨i, e, ab, fr, us, el, f, r1, r2, r3⟩ := h.bx b' cs2 hb'
    have hne : i ≠ k := fun e' => h.tbx t tg k b' hlive hτ hb (by rw [e, e'])
    exact ⟨i, e, ab, fr, us, el, f, (ho.2 i hne).trans r1, r2, r3.imp fun _ _ => LR.keeps hk⟩
  · intro b eb
    by_cases hb' : b = t
    · subst hb'; simp [S.put, upd_same] at eb
    · simp only [S.put, upd_ne _ _ _ _ hb'] at eb; exact h.tk0 b eb
  · intro i sh' T' l2 ei
    by_cases hb' : i = t
    · subst hb'
      simp [S.put, upd_same] at ei
    · simp only [S.put, upd_ne _ _ _ _ hb'] at ei
      obtain ⟨tg', e1, e2, r'⟩ := h.tk i sh' T' l2 ei
      refine ⟨tg', e1, e2, r'.imp id ?_⟩
      rintro ⟨j, cap', a1, a2, a3⟩
      have hne : j ≠ k := fun e' => hb' (h.tinj i t tg' tg k (by rw [ei]; rfl) hlive e1 hτ (by rw [a2, e']) hb)
      obtain ⟨us, el, f, r1, r2, r3, r4⟩ := a3.row
      exact ⟨j, cap', a1, a2, a3.above, a3.len, ⟨us, el, f, (ho.2 j hne).trans r1, r2, r3, r4.keeps hk.pr⟩, a3.prlt, a3.prsh, a3.prno⟩
  · intro i i' x x' k l1 l2 e1 e2 e3 e4
    refine h.tinj i i' x x' k ?_ ?_ e1 e2 e3 e4
    · by_cases hb : i = t
      · rw [hb]; exact hlive
      · simpa [S.put, upd_ne _ _ _ _ hb] using l1
    · by_cases hb : i' = t
      · rw [hb]; exact hlive
      · simpa [S.put, upd_ne _ _ _ _ hb] using l2
  · intro i x k b hl e1 e2 e3
    refine h.tbx i x k b ?_ e1 e2 e3
    by_cases hb : i = t
    · rw [hb]; exact hlive
    · simpa [S.put, upd_ne _ _ _ _ hb] using hl
  · by_cases hb' : i = t
    · subst hb'
      simp only [S.put, upd_same] at ei
      cases ei
      exact ⟨tg, hτ, k, b1, hb, b3, ⟨es, c, hr, hrow.keeps hk.pr⟩, b6⟩
    · simp only [S.put, upd_ne _ _ _ _ hb'] at ei
      obtain ⟨tg', e1, ok'⟩ := h.mp i K2 l2 ei
      exact ⟨tg', e1, ok'.keep hk.pr fun j hj _ => ⟨ho.2 j fun e' => hb' (h.tinj i t tg' tg k (by rw [ei]; rfl) hlive e1 hτ (by rw [hj, e']) hb), fun o p => p⟩⟩
end
end Go.Proofs.Ytjonpmckkmnemaa.Th
set_option linter.unusedVariables false
set_option linter.unusedSimpArgs false
namespace Go.Proofs.Ytjonpmckkmnemaa.Th
open Go Go.RowKit
theorem addr_add (k o j : Nat) : (⟨k, o, none⟩ : Addr).add j = ⟨k, o + j, none⟩ := by unfold Addr.add; split <;> simp_all
theorem add_add (a : Addr) (i j : Nat) : (a.add i).add j = a.add (i + j) := by
  unfold Addr.add
  by_cases hi : i = 0
  · subst hi; simp
  · by_cases hj : j = 0
    · subst hj; simp [hi]
    · simp [hi, hj, Nat.add_assoc]
section
variable {P : Program} {w : World}
theorem setCell_row {k : Nat} {us : Array Value} {e : TypeId} {fr : Nat × Nat} (h : w.heap[k]? = some (.cells us e fr)) (o : Nat) (v : Value) :
    w.setCell ⟨k, o, none⟩ v = w.setRow k (us.setIfInBounds o v) := by
  unfold World.setCell World.setRow
  congr 1
  apply Array.ext_getElem?
  intro i
  simp only [Array.getElem?_modify]
  by_cases e : k = i
  · subst e; simp [h]
  · simp [e]
theorem setRow_setRow (k : Nat) (a b : Array Value) : (w.setRow k a).setRow k b = w.setRow k b := by
  unfold World.setRow
  congr 1
  apply Array.ext_getElem?
  intro i
  simp only [Array.getElem?_modify]
  by_cases e : k = i
  · subst e
    simp only [if_true, Option.map_map]
    congr 1
    funext o
    cases o <;> rfl
  · simp [e]
theorem setRow_self {k : Nat} {us : Array Value} {e : TypeId} {fr : Nat × Nat} (h : w.heap[k]? = some (.cells us e fr)) : w.setRow k us = w := by
  cases w with
  | mk heap tape drawn os output =>
  unfold World.setRow
  congr 1
  apply Array.ext_getElem?
  intro i
  simp only [Array.getElem?_modify]
  by_cases e : k = i
  · subst e; simp at h; simp [h]
  · simp [e]
theorem only_setRow (k : Nat) (us : Array Value) : Only k w (w.setRow k us) := ⟨by simp [World.setRow], fun i hi => setRow_other w k i us hi⟩
theorem below_setRow {μ : Bool} {B : Bd μ} {k : Nat} (hk : B.mine k) (us : Array Value) : BelowB B w (w.setRow k us) :=
  ⟨rfl, rfl, rfl, by simp [World.setRow], fun i hi => setRow_other w k i us (fun e => hi (e ▸ hk)), fun _ => Nat.le_refl _⟩
def over (us : List Value) (o : Nat) (vs : List Value) : List Value := us.take o ++ vs ++ us.drop (o + vs.length)
theorem over_len {us vs : List Value} {o : Nat} (h : o + vs.length ≤ us.length) : (over us o vs).length = us.length := by
  simp [over]; omega
theorem over_get {us vs : List Value} {o : Nat} (h : o + vs.length ≤ us.length) (i : Nat) :
    (over us o vs)[i]? = if i < o then us[i]? else if i < o + vs.length then vs[i - o]? else us[i]? := by
  unfold over
  have h1 : (us.take o).length = o := by simp; omega
  by_cases a : i < o
  · rw [if_pos a, List.append_assoc, List.getElem?_append_left (by omega), List.getElem?_take, if_pos a]
  · rw [if_neg a, List.append_assoc, List.getElem?_append_right (by omega), h1]
    by_cases b : i < o + vs.length
    · rw [if_pos b, List.getElem?_append_left (by omega)]
    · rw [if_neg b, List.getElem?_append_right (by omega), List.getElem?_drop]
      congr 1; omega
theorem run_storeRow {k : Nat} {e : TypeId} {fr : Nat × Nat} : ∀ (vs : List Value) (o i : Nat) (w : World) (us : Array Value), w.heap[k]? = some (.cells us e fr) → Thawed fr us.size → o + i + vs.length ≤ us.size →
    (∀ v ∈ vs, v.oneCell' = true) → (storeCells ⟨k, o, none⟩ vs i).run P w = .ok () (w.setRow k (over us.toList (o + i) vs).toArray) := by
  intro vs
  induction vs with
  | nil =>
    intro o i w us h ht hl h1
    simp only [storeCells, Sem.run_pure, over, List.append_nil, List.length_nil, Nat.add_zero, List.take_append_drop]
    rw [setRow_self h]
  | cons v vs ih =>
    intro o i w us h ht hl h1
    simp only [List.length_cons] at hl
    have hlt : o + i < us.size := by omega
    have hst : (store ((⟨k, o, none⟩ : Addr).add i) v).run P w = .ok () (w.setRow k (us.setIfInBounds (o + i) v)) := by
      rw [addr_add, run_store P w _ v .plain (h1 v (.head _)), cell_of h, Array.getElem?_eq_getElem hlt]
      simp only [frozen_of h ht hlt, Bool.false_eq_true, if_false]
      rw [setCell_row h]
    have h' : (w.setRow k (us.setIfInBounds (o + i) v)).heap[k]? = some (.cells (us.setIfInBounds (o + i) v) e fr) := setRow_heap w k us _ e fr h
    have := ih o (i + 1) _ _ h' (by simpa [Thawed] using ht) (by simp; omega) (fun u hu => h1 u (.tail _ hu))
    simp only [storeCells, Sem.run_bind, hst, Result.andThen_ok, this, setRow_setRow]
    congr 3
    apply List.ext_getElem?
    intro j
    rw [over_get (by simp; omega), over_get (by simp; omega)]
    simp only [Array.toList_setIfInBounds, List.length_cons, List.getElem?_set, Array.length_toList]
    by_cases a : j < o + i
    · rw [if_pos (by omega), if_pos a, if_neg (by omega)]
    · by_cases b : j = o + i
      · subst b; simp [hlt]
      · rw [if_neg (by omega), if_neg a]
        by_cases c : j < o + i + (vs.length + 1)
        · rw [if_pos (by omega), if_pos c]
          obtain ⟨m, rfl⟩ : ∃ m, j = o + (i + 1) + m := ⟨j - (o + (i + 1)), by omega⟩
          rw [show o + (i + 1) + m - (o + (i + 1)) = m from by omega, show o + (i + 1) + m - (o + i) = m + 1 from by omega, List.getElem?_cons_succ]
        · rw [if_neg (by omega), if_neg c, if_neg (by omega)]
end
theorem PR.one {w : World} {pr : Nat → Nat → Prop} {v : AV} {u : Value} (h : PR w pr v u) : u.oneCell' = true := by
  cases v with
  | sl T l => obtain ⟨a, c, e, _⟩ := (show SlR _ _ _ _ _ _ from h); cases e; rfl
  | ifv t T x => obtain ⟨a, us, e, _⟩ := id h; cases e; rfl
  | fnv t T x => obtain ⟨us, e, _⟩ := id h; rw [(List.cons.inj e).1]; cases T.isSt <;> rfl
  | imm T x => obtain ⟨ad, us, e, _⟩ := id h; cases e; rfl
  | _ => first | (rw [show u = _ from h]; rfl) | exact h.elim
theorem All2.one {w : World} {pr : Nat → Nat → Prop} {vs : List AV} {us : List Value} (h : All2 (PR w pr) vs us) : ∀ u ∈ us, u.oneCell' = true := by
  intro u hu
  obtain ⟨i, hi, rfl⟩ := List.getElem_of_mem hu
  have : i < vs.length := by rw [h.len]; exact hi
  obtain ⟨b, hb, hr⟩ := h.get i vs[i] (by simp [this])
  rw [List.getElem?_eq_getElem hi] at hb; cases hb
  exact hr.one
theorem TR.one {w : World} {pr : Nat → Nat → Prop} {T : Ty} {x : T.den} {us : List Value} (h : TR w pr T x us) : ∀ u ∈ us, u.oneCell' = true := (cells_PR h).one
def z0 : AV → Value → Bool
  | .int k n, .int k' n' => decide (k = k') && decide (n = n')
  | .bool b, .bool b' => b == b'
  | .str [], .string s => s.data.toList.isEmpty
  | .flt b, .float .f64 b' => Nat.beq b b'
  | .cpx a b, .complex .f64 a' b' => Nat.beq a a' && Nat.beq b b'
  | .nilsl, .slice none 0 0 => true
  | .nilptr, .pointer none => true
  | .nilfn, .nilFunc => true
  | .nilif, .nilIface => true
  | .undef, _ => true
  | _, _ => false
def z0s : List AV → List Value → Bool
  | [], [] => true
  | a :: as, u :: us => z0 a u && z0s as us
  | _, _ => false
def zOf : Ty → List Value → Bool
  | .int k, [.int k' n] => decide (k = k') && decide (n = 0)
  | .bool, [.bool b] => !b
  | .str, [.string s] => s.data.toList.isEmpty
  | .flt, [.float .f64 b] => Nat.beq b 0
  | .cpx, [.complex .f64 a b] => Nat.beq a 0 && Nat.beq b 0
  | .slice _, [.slice none 0 0] => true
  | .st f, cs => zOf f cs
  | .nil, [] => true
  | .cons a b, cs => zOf a (cs.take a.size) && zOf b (cs.drop a.size)
  | .arr n _, cs => Nat.beq cs.length n && cs.all fun | .slice none 0 0 => true | _ => false
  | _, _ => false
theorem zOf_TR {w : World} {pr : Nat → Nat → Prop} : ∀ {T : Ty} {cs : List Value}, zOf T cs = true → TR w pr T T.dflt cs := by
  intro T
  induction T with
  | st f ih => intro cs h; exact ih h
  | ifc t a _ => intro cs h; simp [zOf] at h
  | clo t a _ => intro cs h; simp [zOf] at h
  | ref a _ => intro cs h; simp [zOf] at h
  | arr n e _ =>
    intro cs h
    simp only [zOf, Bool.and_eq_true] at h
    have hn := Nat.eq_of_beq_eq_true h.1
    refine ⟨by simp [Ty.dflt], ?_⟩
    show All2 _ (List.replicate n []) cs
    rw [← hn]
    have h2 := h.2
    clear h hn
    induction cs with
    | nil => trivial
    | cons c cs ih =>
      simp only [List.all_cons, Bool.and_eq_true] at h2
      refine ⟨?_, ih h2.2⟩
      have h3 := h2.1
      split at h3
      · exact TR_nilsl _ _ _
      · cases h3
  | cons a b iha ihb =>
    intro cs h
    simp only [zOf, Bool.and_eq_true] at h
    exact ⟨_, _, (List.take_append_drop a.size cs).symm, iha h.1, ihb h.2⟩
  | int k =>
    intro cs h
    match cs with
    | [.int k' n] => simp only [zOf, Bool.and_eq_true, decide_eq_true_eq] at h; show _ = _; rw [h.1, h.2]; rfl
    | [] => simp [zOf] at h
    | [.bool _] | [.float _ _] | [.complex _ _ _] | [.string _] | [.pointer _] | [.slice _ _ _] | [.map _] | [.chan _] | [.func _ _ _] | [.nilFunc] | [.iface _ _] | [.nilIface] | [.agg _] | [.tuple _] => simp [zOf] at h
    | _ :: _ :: _ => simp [zOf] at h
  | bool =>
    intro cs h
    match cs with
    | [.bool b] => simp only [zOf, Bool.not_eq_true'] at h; show _ = _; rw [h]; rfl
    | [] => simp [zOf] at h
    | [.int _ _] | [.float _ _] | [.complex _ _ _] | [.string _] | [.pointer _] | [.slice _ _ _] | [.map _] | [.chan _] | [.func _ _ _] | [.nilFunc] | [.iface _ _] | [.nilIface] | [.agg _] | [.tuple _] => simp [zOf] at h
    | _ :: _ :: _ => simp [zOf] at h
  | str =>
    intro cs h
    match cs with
    | [.string s] =>
      simp only [zOf] at h
      have : s.data.toList = [] := by simpa using h
      have hs : s = ⟨#[]⟩ := by cases s; simp at this; rw [this]
      rw [hs]; rfl
    | [] => simp [zOf] at h
    | [.int _ _] | [.float _ _] | [.complex _ _ _] | [.bool _] | [.pointer _] | [.slice _ _ _] | [.map _] | [.chan _] | [.func _ _ _] | [.nilFunc] | [.iface _ _] | [.nilIface] | [.agg _] | [.tuple _] => simp [zOf] at h
    | _ :: _ :: _ => simp [zOf] at h
  | flt =>
    intro cs h
    match cs with
    | [.float .f64 b] => simp only [zOf] at h; show _ = _; rw [Nat.eq_of_beq_eq_true h]; rfl
    | [.float .f32 b] => simp [zOf] at h
    | [] => simp [zOf] at h
    | [.int _ _] | [.string _] | [.complex _ _ _] | [.bool _] | [.pointer _] | [.slice _ _ _] | [.map _] | [.chan _] | [.func _ _ _] | [.nilFunc] | [.iface _ _] | [.nilIface] | [.agg _] | [.tuple _] => simp [zOf] at h
    | _ :: _ :: _ => simp [zOf] at h
  | cpx =>
    intro cs h
    match cs with
    | [.complex .f64 a b] => simp only [zOf, Bool.and_eq_true] at h; show _ = _; rw [Nat.eq_of_beq_eq_true h.1, Nat.eq_of_beq_eq_true h.2]; rfl
    | [.complex .f32 a b] => simp [zOf] at h
    | [] => simp [zOf] at h
    | [.int _ _] | [.string _] | [.float _ _] | [.bool _] | [.pointer _] | [.slice _ _ _] | [.map _] | [.chan _] | [.func _ _ _] | [.nilFunc] | [.iface _ _] | [.nilIface] | [.agg _] | [.tuple _] => simp [zOf] at h
    | _ :: _ :: _ => simp [zOf] at h
  | slice e _ =>
    intro cs h
    match cs with
    | [.slice none 0 0] => exact TR_nilsl _ _ _
    | [.slice none 0 (_ + 1)] | [.slice none (_ + 1) _] | [.slice (some _) _ _] => simp [zOf] at h
    | [] => simp [zOf] at h
    | [.int _ _] | [.string _] | [.float _ _] | [.bool _] | [.pointer _] | [.complex _ _ _] | [.map _] | [.chan _] | [.func _ _ _] | [.nilFunc] | [.iface _ _] | [.nilIface] | [.agg _] | [.tuple _] => simp [zOf] at h
    | _ :: _ :: _ => simp [zOf] at h
  | nil =>
    intro cs h
    match cs with
    | [] => rfl
    | _ :: _ => simp [zOf] at h
def undOK (i : TInfo) (d : TypeDesc) : Bool :=
  match i.kn, d with
  | .bool, .bool => true
  | .int k, .int k' => decide (k = k')
  | .str, .string => true
  | .flt, .float .f64 => true
  | .cpx, .complex .f64 => true
  | .slice e, .slice e' => Nat.beq e e'
  | .struct, .struct fs => (i.fields.length == fs.toList.length) && (i.fields.zip fs.toList).all (fun p => Nat.beq p.1.1 p.2.offset && Nat.beq p.1.2 p.2.type)
  | .ptr e, .pointer e' => Nat.beq e e'
  | .arr n e, .array n' e' => Nat.beq n n' && Nat.beq e e'
  | .mapb a e, .map a' e' => Nat.beq a a' && Nat.beq e e'
  | .other, .struct _ => false
  | .other, .array _ _ => false
  | .other, _ => true
  | _, _ => false
def fszOK (P : Program) : List (Nat × TypeId) → List Nat → Bool
  | [], [] => true
  | f :: fs, n :: ns => (match P.info? f.2 with
    | some ti => Nat.beq ti.size n
    | none => false) && fszOK P fs ns
  | _, _ => false
def flat1 (P : Program) (T : Ty) (t : TypeId) : Bool := match T, P.underlying t with
  | .int j, some (.int j') => decide (j = j')
  | .bool, some .bool => true
  | .str, some .string => true
  | _, _ => false
def Ty.nest : Ty → Nat
  | .st T => T.nest + 1
  | .cons a b => a.nest + b.nest
  | _ => 0
def eqT (P : Program) : Ty → Option TypeId → Nat → List Field → Bool
  | .st T, some t, _, _ => (match P.underlying t with
    | some (.struct fs) => eqT P T none 0 fs.toList
    | _ => false) && !P.stoodInHeld t && (match P.info? t with
    | some ti => Nat.beq ti.size T.size
    | none => false)
  | .int j, some t, _, _ => flat1 P (.int j) t
  | .bool, some t, _, _ => flat1 P .bool t
  | .str, some t, _, _ => flat1 P .str t
  | .nil, none, _, [] => true
  | .cons T b, none, k, f :: fs => (f.name != "_") && Nat.beq f.offset k && eqT P T (some f.type) 0 [] && eqT P b none (k + T.size) fs
  | _, _, _, _ => false
def eqOK (P : Program) (t : TypeId) (i : TInfo) : Bool := match i.ty, P.underlying t with
  | .st T, some (.struct fs) => eqT P T none 0 fs.toList && Nat.ble T.nest 100 && !P.stoodInHeld t && !P.eqGuardType P.depth t
  | _, _ => false
def methsOK (ti : TypeInfo) (d : TypeDesc) : List (String × FuncId) → Bool
  | [] => true
  | (name, f) :: l => (match d with
    | .pointer _ => false
    | _ => true) && (match ti.methods.find? (·.name == name) with
    | some m => m.path.toList.isEmpty && (match m.func with
      | some (g, false) => Nat.beq f g
      | _ => false)
    | none => false) && methsOK ti d l
def arrsOK (P : Program) (t : TypeId) (l : List (Nat × Nat)) : Bool := l.all fun p => match P.underlying p.1 with
  | some (.array n e) => Nat.beq n p.2 && Nat.beq e t
  | _ => false
def bz : Kn → Value → Bool
  | .bool, .bool b => !b
  | .bool, _ => false
  | _, _ => true
def tiOK1 (P : Program) (t : TypeId) (i : TInfo) : Bool :=
  match P.info? t, P.underlying t with
  | some ti, some d => Nat.beq ti.size i.size && Nat.beq ti.bytes i.bytes && (Nat.beq i.ty.size i.size && (undOK i d && (i.ty.isSt == i.kn.isSt) &&
    (match ti.zero with
     | some z => z0s i.zero z.cells.toList && Nat.beq i.zero.length i.size && (!i.rep || zOf i.ty z.cells.toList) && bz i.kn z
     | none => false) && (!i.kn.isRec || fszOK P i.fields i.fsz) && (!i.eqok || eqOK P t i) && methsOK ti d i.meths && arrsOK P t i.arrs))
  | _, _ => false
def tiOf (l : List (Nat × TInfo)) : TEnv := fun t => match l.find? (fun p => Nat.beq t p.1) with
  | some p => some p.2
  | none => none
structure TIok (P : Program) (TI : TEnv) : Prop where
  ok : ∀ t i, TI t = some i → tiOK1 P t i = true
theorem TIok.of {P : Program} {l : List (Nat × TInfo)} (h : l.all (fun p => tiOK1 P p.1 p.2) = true) : TIok P (tiOf l) := by
  refine ⟨fun t i hi => ?_⟩
  unfold tiOf at hi
  split at hi
  · rename_i p hp
    cases hi
    have h1 := List.find?_some hp
    have h2 := List.mem_of_find?_eq_some hp
    have := List.all_eq_true.1 h p h2
    rw [Nat.eq_of_beq_eq_true h1]; exact this
  · cases hi
section
variable {P : Program} {TI : TEnv} {t : TypeId} {i : TInfo}
structure TypeIs (P : Program) (t : TypeId) (i : TInfo) (ti : TypeInfo) (d : TypeDesc) (z : Value) : Prop where
  info : P.info? t = some ti
  und : P.underlying t = some d
  size : ti.size = i.size
  bytes : ti.bytes = i.bytes
  tysz : i.ty.size = i.size
  tyst : i.ty.isSt = i.kn.isSt
  undok : undOK i d = true
  zero : ti.zero = some z
  zrel : z0s i.zero z.cells.toList = true
  zlen : i.zero.length = i.size
  zrep : i.rep = true → zOf i.ty z.cells.toList = true
  zbool : bz i.kn z = true
  fsz : i.kn.isRec = true → fszOK P i.fields i.fsz = true
  eq : i.eqok = true → eqOK P t i = true
  meth : methsOK ti d i.meths = true
  arr : arrsOK P t i.arrs = true
theorem TIok.get (h : TIok P TI) (hi : TI t = some i) : ∃ ti d z, TypeIs P t i ti d z := by
  have := h.ok t i hi
  unfold tiOK1 at this
  split at this
  · rename_i ti d h1 h2
    simp only [Bool.and_eq_true] at this
    obtain ⟨⟨a, b⟩, c, ⟨⟨⟨⟨⟨e, f⟩, g⟩, k1⟩, k2⟩, k3⟩, k4⟩ := this
    split at g
    · rename_i z hz
      simp only [Bool.and_eq_true] at g
      exact ⟨ti, d, z, h1, h2, Nat.eq_of_beq_eq_true a, Nat.eq_of_beq_eq_true b, Nat.eq_of_beq_eq_true c, by simpa using f, e, hz, g.1.1.1, Nat.eq_of_beq_eq_true g.1.1.2, fun hr => by simpa [hr] using g.1.2, g.2, fun hr => by simpa [hr] using k1, fun hr => by simpa [hr] using k2, k3, k4⟩
    · cases g
  · cases this
theorem z0_LR {w : World} {g : Gh} {v : AV} {u : Value} (h : z0 v u = true) : LR w g v u := by
  unfold z0 at h
  split at h
  · simp only [Bool.and_eq_true, decide_eq_true_eq] at h; rw [h.1, h.2]; rfl
  · simp at h; rw [h]; rfl
  · rename_i s
    have : s.data.toList = [] := by simpa using h
    have hs : s = ⟨#[]⟩ := by cases s; simp at this; rw [this]
    rw [hs]; rfl
  · rw [Nat.eq_of_beq_eq_true h]; rfl
  · simp only [Bool.and_eq_true] at h; rw [Nat.eq_of_beq_eq_true h.1, Nat.eq_of_beq_eq_true h.2]; rfl
  · rfl
  · rfl
  · rfl
  · rfl
  · trivial
  · cases h
theorem z0s_LR {w : World} {g : Gh} : ∀ {vs : List AV} {us : List Value}, z0s vs us = true → All2 (LR w g) vs us
  | [], [], _ => trivial
  | v :: vs, u :: us, h => by
    simp only [z0s, Bool.and_eq_true] at h
    exact ⟨z0_LR h.1, z0s_LR h.2⟩
  | [], _ :: _, h => by simp [z0s] at h
  | _ :: _, [], h => by simp [z0s] at h
theorem TypeIs.isAgg {ti : TypeInfo} {d : TypeDesc} {z : Value} (h : TypeIs P t i ti d z) (w : World) : (isAgg t).run P w = .ok i.kn.isSt w := by
  have h1 := h.undok
  unfold Go.isAgg
  rw [Sem.run_bind, run_underlying h.und]
  unfold undOK at h1
  cases hn : i.kn <;> rw [hn] at h1 <;> cases d <;> simp [Kn.isSt] at h1 ⊢
theorem TypeIs.sizeOf {ti : TypeInfo} {d : TypeDesc} {z : Value} (h : TypeIs P t i ti d z) (w : World) : (sizeOf t).run P w = .ok i.size w := by
  simp [Go.sizeOf, typeInfo, h.info, h.size]
theorem TypeIs.slice {ti : TypeInfo} {d : TypeDesc} {z : Value} (h : TypeIs P t i ti d z) {e : TypeId} (hk : i.kn = .slice e) : P.underlying t = some (.slice e) := by
  have h1 := h.undok
  rw [h.und]
  unfold undOK at h1
  rw [hk] at h1
  cases d with
  | slice e' => simp only [] at h1; rw [Nat.eq_of_beq_eq_true h1]
  | _ => simp at h1
theorem TypeIs.int {ti : TypeInfo} {d : TypeDesc} {z : Value} (h : TypeIs P t i ti d z) {k : IntKind} (hk : i.kn = .int k) : P.underlying t = some (.int k) := by
  have h1 := h.undok
  rw [h.und]
  unfold undOK at h1
  rw [hk] at h1
  cases d with
  | int e' => simp at h1; rw [h1]
  | _ => simp at h1
theorem TypeIs.str {ti : TypeInfo} {d : TypeDesc} {z : Value} (h : TypeIs P t i ti d z) (hk : i.kn = .str) : P.underlying t = some .string := by
  have h1 := h.undok
  rw [h.und]
  unfold undOK at h1
  rw [hk] at h1
  cases d with
  | string => rfl
  | _ => simp at h1
theorem TypeIs.cpx {ti : TypeInfo} {d : TypeDesc} {z : Value} (h : TypeIs P t i ti d z) (hk : i.kn = .cpx) : P.underlying t = some (.complex .f64) := by
  have h1 := h.undok
  rw [h.und]
  unfold undOK at h1
  rw [hk] at h1
  cases d with
  | complex k => cases k with
    | f64 => rfl
    | f32 => simp at h1
  | _ => simp at h1
theorem TypeIs.flt {ti : TypeInfo} {d : TypeDesc} {z : Value} (h : TypeIs P t i ti d z) (hk : i.kn = .flt) : P.underlying t = some (.float .f64) := by
  have h1 := h.undok
  rw [h.und]
  unfold undOK at h1
  rw [hk] at h1
  cases d with
  | float k => cases k with
    | f64 => rfl
    | f32 => simp at h1
  | _ => simp at h1
theorem TypeIs.arrd {ti : TypeInfo} {d : TypeDesc} {z : Value} (h : TypeIs P t i ti d z) {n e : Nat} (hk : i.kn = .arr n e) : P.underlying t = some (.array n e) := by
  have h1 := h.undok
  rw [h.und]
  unfold undOK at h1
  rw [hk] at h1
  cases d with
  | array n' e' => simp only [Bool.and_eq_true] at h1; rw [Nat.eq_of_beq_eq_true h1.1, Nat.eq_of_beq_eq_true h1.2]
  | _ => simp at h1
theorem TypeIs.mapd {ti : TypeInfo} {d : TypeDesc} {z : Value} (h : TypeIs P t i ti d z) {n e : Nat} (hk : i.kn = .mapb n e) : P.underlying t = some (.map n e) := by
  have h1 := h.undok
  rw [h.und]
  unfold undOK at h1
  rw [hk] at h1
  cases d with
  | map n' e' => simp only [Bool.and_eq_true] at h1; rw [Nat.eq_of_beq_eq_true h1.1, Nat.eq_of_beq_eq_true h1.2]
  | _ => simp at h1
theorem TypeIs.ptrd {ti : TypeInfo} {d : TypeDesc} {z : Value} (h : TypeIs P t i ti d z) {e : Nat} (hk : i.kn = .ptr e) : P.underlying t = some (.pointer e) := by
  have h1 := h.undok
  rw [h.und]
  unfold undOK at h1
  rw [hk] at h1
  cases d with
  | pointer e' => simp only [] at h1; rw [Nat.eq_of_beq_eq_true h1]
  | _ => simp at h1
theorem TypeIs.struct {ti : TypeInfo} {d : TypeDesc} {z : Value} (h : TypeIs P t i ti d z) (hk : i.kn.isRec = true) : ∃ fs, P.underlying t = some (.struct fs) ∧ i.fields = fs.toList.map (fun f => (f.offset, f.type)) := by
  have h1 := h.undok
  have hn : i.kn = .struct := by cases hn : i.kn <;> rw [hn] at hk <;> first | rfl | cases hk
  rw [h.und]
  unfold undOK at h1
  rw [hn] at h1
  cases d with
  | struct fs =>
    refine ⟨fs, rfl, ?_⟩
    simp only [Bool.and_eq_true, beq_iff_eq] at h1
    apply List.ext_getElem?
    intro j
    rw [List.getElem?_map]
    rcases Nat.lt_or_ge j i.fields.length with hj | hj
    · have hj2 : j < fs.toList.length := by omega
      have := List.all_eq_true.1 h1.2 (i.fields[j], fs.toList[j]) (by
        rw [List.mem_iff_getElem?]; exact ⟨j, by rw [List.getElem?_zip_eq_some]; simp [hj, hj2]⟩)
      simp only [Bool.and_eq_true] at this
      rw [List.getElem?_eq_getElem hj, List.getElem?_eq_getElem hj2]
      simp only [Option.map_some, Option.some.injEq]
      exact Prod.ext (Nat.eq_of_beq_eq_true this.1) (Nat.eq_of_beq_eq_true this.2)
    · rw [List.getElem?_eq_none hj, List.getElem?_eq_none (by omega)]; rfl
  | _ => simp at h1
end
end Go.Proofs.Ytjonpmckkmnemaa.Th
set_option linter.unusedVariables false
set_option linter.unusedSimpArgs false
namespace Go.Proofs.Ytjonpmckkmnemaa.Th
open Go Go.RowKit
theorem strV_data (s : ByteArray) : strV s.data.toList = .string s := by unfold strV; cases s; simp
theorem cst1_LR {w : World} {g : Gh} (v : Value) : LR w g (cst1 v) v := by
  unfold cst1
  split <;> first | rfl | trivial | (rename_i s; exact (strV_data s).symm)
theorem cst1_PR {w : World} {pr : Nat → Nat → Prop} (v : Value) (h : isPlainCell (cst1 v) = true) : PR w pr (cst1 v) v := by
  unfold cst1 at h ⊢
  split <;> first | rfl | (rename_i s; exact (strV_data s).symm) | skip
  all_goals simp [isPlainCell] at h
theorem chunk_PR {w : World} {pr : Nat → Nat → Prop} (us : List Value) (h : (chunks us).all isPlainCell = true) : All2 (PR w pr) (chunks us) us := by
  induction us with
  | nil => trivial
  | cons u us ih =>
    simp only [chunks, List.map_cons, List.all_cons, Bool.and_eq_true] at h ⊢
    exact ⟨cst1_PR u h.1, ih h.2⟩
theorem cst_LR {w : World} {g : Gh} (v : Value) : LR w g (cst v) v := by
  unfold cst
  split
  · rename_i cs
    cases h : (chunks cs.toList).all isPlainCell with
    | true => exact ⟨cs.toList, by simp, chunk_PR _ h⟩
    | false => trivial
  · exact cst1_LR _
section
variable {C : FuncId → List AV → AV → Prop} {Rd : Rs → Prop} {μ : Bool} {B : Bd μ} {N : Nat} {g : Gh} {s : S} {w : World} {a : Act}
theorem rdv_ev (h : Rel B g s w a N) {x : Operand} {k : AV → Pg} {ws : List Wr} (he : (rdv x k).Ev C Rd s ws) : ∃ v, VR w g v (a.eval x) ∧ (k v).Ev C Rd s ws := by
  cases x with
  | tmp t => exact ⟨_, h.tm t, he.2⟩
  | const v => exact ⟨_, VR_of_LR (cst_LR v), he⟩
  | func f => exact ⟨_, VR_of_LR (LR_of_PR (show PR w g.pr (.fnv f .nil ()) _ from ⟨[], rfl, rfl⟩)), he⟩
  | global n =>
    have he : (rdg n k).Ev C Rd s ws := he
    unfold rdg at he
    cases hr : gtab n with
    | none => rw [hr] at he; exact he.elim
    | some r => rw [hr] at he; exact ⟨_, VR_of_LR (show LR w g (.gar r.e r.T r.l) (a.eval (.global n)) from h.ex.gl n r hr), he⟩
theorem rdvs_ev (h : Rel B g s w a N) : ∀ {xs : List Operand} {k : List AV → Pg} {ws : List Wr}, (rdvs xs k).Ev C Rd s ws → ∃ vs, All2 (VR w g) vs (xs.map a.eval) ∧ (k vs).Ev C Rd s ws
  | [], _, _, he => ⟨[], trivial, he⟩
  | x :: xs, k, ws, he => by
    obtain ⟨v, hv, he⟩ := rdv_ev h he
    obtain ⟨vs, hvs, he⟩ := rdvs_ev h he
    exact ⟨v :: vs, ⟨hv, hvs⟩, he⟩
theorem Rel.wrd (h : Rel B g s w a N) {d : Option Tmp} {v : AV} {u : Value} (hv : VR w g v u) (hd : ∀ t, d = some t → t < N) : Rel B g (s.puts (wrd d v)) w (a.put d u) N := by
  cases d with
  | none => exact h
  | some t => exact h.tmp hv (hd t rfl)
end
def PV (w : World) (pr : Nat → Nat → Prop) (v : AV) (u : Value) : Prop := PR w pr v u ∨ ∃ cs us, v = .agg cs ∧ u = .agg (List.toArray us) ∧ All2 (PR w pr) cs us
theorem PV.keeps {w w' : World} {pr pr' : Nat → Nat → Prop} (hk : PrKeeps w pr w' pr') {v : AV} {u : Value} (h : PV w pr v u) : PV w' pr' v u :=
  h.imp (PR.keeps hk) fun ⟨cs, us, a, b, c⟩ => ⟨cs, us, a, b, c.imp fun _ _ => PR.keeps hk⟩
theorem PR.cells {w : World} {pr : Nat → Nat → Prop} {v : AV} {u : Value} (h : PR w pr v u) : v.cells = [v] ∧ u.cells = #[u] := by
  have h1 := h.one
  constructor
  · cases v <;> first | rfl | exact h.elim
  · cases u <;> first | rfl | (simp [Value.oneCell'] at h1)
theorem PV.cells {w : World} {pr : Nat → Nat → Prop} {v : AV} {u : Value} (h : PV w pr v u) : All2 (PR w pr) v.cells u.cells.toList := by
  rcases h with h | ⟨cs, us, rfl, rfl, h⟩
  · rw [h.cells.1, h.cells.2]; exact ⟨h, trivial⟩
  · simpa [AV.cells, Value.cells] using h
theorem PV.LR {w : World} {g : Gh} {v : AV} {u : Value} (h : PV w g.pr v u) : LR w g v u := by
  rcases h with h | ⟨cs, us, rfl, rfl, h⟩
  · exact LR_of_PR h
  · exact ⟨us, rfl, h⟩
structure Promo (s s' : S) : Prop where
  tmps : s'.tmps = s.tmps
  boxes : s'.boxes = s.boxes
  toks : ∀ t, s'.toks t = s.toks t ∨ ∃ T l, s.toks t = .live false T l ∧ s'.toks t = .live true T l
theorem Promo.refl (s : S) : Promo s s := ⟨rfl, rfl, fun _ => .inl rfl⟩
theorem S.puts_one (s : S) (ws : List Wr) (x : Wr) : s.puts (ws ++ [x]) = (s.puts ws).put x := by rw [S.puts_append]; rfl
section
variable {C : FuncId → List AV → AV → Prop} {Rd : Rs → Prop} {μ : Bool} {B : Bd μ} {N : Nat} {g : Gh} {s : S} {w : World} {a : Act}
theorem put_tok_self (s : S) (t : Nat) (c : Tok) (h : s.toks t = c) : s.put (.tok t c) = s := by
  cases s; simp only [S.put] at h ⊢; congr 1; rw [← h]; exact upd_self _ _
theorem snap1_ev {v : AV} {u : Value} {ws W : List Wr} {k : AV → List Wr → Pg} (hp : Promo s (s.puts ws)) (h : Rel B g (s.puts ws) w a N) (hv : VR w g v u)
    (he : (snap1 v ws k).Ev C Rd s W) : ∃ v' ws' g', (k v' ws').Ev C Rd s W ∧ Promo s (s.puts ws') ∧ Rel B g' (s.puts ws') w a N ∧ Keeps w g w g' ∧ PV w g'.pr v' u := by
  unfold snap1 at he
  cases v with
  | ref t =>
    simp only [] at he
    obtain ⟨_, he⟩ := he
    cases ht : s.toks t with
    | abs => rw [ht] at he; exact he.elim
    | dead => rw [ht] at he; exact he.elim
    | mlive _ _ => rw [ht] at he; exact he.elim
    | live sh T l =>
      rw [ht] at he
      obtain ⟨tg, hτ, rfl, _⟩ := hv
      cases sh with
      | true =>
        simp only [] at he
        have h2 : (s.puts ws).toks t = .live true T l := by
          rcases hp.toks t with e | ⟨T', l', e, _⟩
          · rw [e, ht]
          · rw [ht] at e; cases e
        obtain ⟨tg', e1, e2⟩ := h.shared h2
        rw [hτ] at e1; cases e1
        exact ⟨_, _, g, he, hp, h, Keeps.refl _ _, .inl e2⟩
      | false =>
        simp only [] at he
        have hp' : Promo s (s.puts (ws ++ [.tok t (.live true T l)])) := by
          rw [S.puts_one]
          refine ⟨hp.tmps, hp.boxes, fun i => ?_⟩
          by_cases e : i = t
          · subst e; exact .inr ⟨T, l, ht, by simp [S.put, upd_same]⟩
          · simpa [S.put, upd_ne _ _ _ _ e] using hp.toks i
        rcases hp.toks t with e | ⟨T', l', e, e'⟩
        · obtain ⟨g', tg', r1, r2, r3, r4⟩ := h.share (e.trans ht)
          rw [hτ] at r3; cases r3
          exact ⟨_, _, g', he, hp', by rw [S.puts_one]; exact r1, r2, .inl r4⟩
        · rw [ht] at e; cases e
          obtain ⟨tg', e1, e2⟩ := h.shared e'
          rw [hτ] at e1; cases e1
          exact ⟨_, _, g, he, hp', by rw [S.puts_one, put_tok_self _ _ _ e']; exact h, Keeps.refl _ _, .inl e2⟩
  | agg cs => obtain ⟨us, rfl, h2⟩ := hv; exact ⟨_, _, g, he, hp, h, Keeps.refl _ _, .inr ⟨cs, us, rfl, rfl, h2⟩⟩
  | int j n => exact ⟨_, _, g, he, hp, h, Keeps.refl _ _, .inl hv⟩
  | bool b => exact ⟨_, _, g, he, hp, h, Keeps.refl _ _, .inl hv⟩
  | str b => exact ⟨_, _, g, he, hp, h, Keeps.refl _ _, .inl hv⟩
  | flt b => exact ⟨_, _, g, he, hp, h, Keeps.refl _ _, .inl hv⟩
  | cpx b c => exact ⟨_, _, g, he, hp, h, Keeps.refl _ _, .inl hv⟩
  | nilsl => exact ⟨_, _, g, he, hp, h, Keeps.refl _ _, .inl hv⟩
  | sl T l => exact ⟨_, _, g, he, hp, h, Keeps.refl _ _, .inl hv⟩
  | ifv t T l => exact ⟨_, _, g, he, hp, h, Keeps.refl _ _, .inl hv⟩
  | fnv t T l => exact ⟨_, _, g, he, hp, h, Keeps.refl _ _, .inl hv⟩
  | imm T l => exact ⟨_, _, g, he, hp, h, Keeps.refl _ _, .inl hv⟩
  | fn f cap =>
    cases cap with
    | nil =>
      obtain ⟨us, e1, e2⟩ := hv
      have e3 : us = [] := by cases us with | nil => rfl | cons _ _ => exact e2.elim
      subst e3
      exact ⟨.fnv f .nil (), _, g, he, hp, h, Keeps.refl _ _, .inl (show PR w g.pr (.fnv f .nil ()) u from ⟨[], by rw [e1]; rfl, rfl⟩)⟩
    | cons _ _ => exact he.elim
  | _ => exact he.elim
theorem snaps_ev : ∀ {vs : List AV} {us : List Value} {ws W : List Wr} {k : List AV → List Wr → Pg} {g : Gh}, Promo s (s.puts ws) → Rel B g (s.puts ws) w a N → All2 (VR w g) vs us →
    (snaps vs ws k).Ev C Rd s W → ∃ vs' ws' g', (k vs' ws').Ev C Rd s W ∧ Promo s (s.puts ws') ∧ Rel B g' (s.puts ws') w a N ∧ Keeps w g w g' ∧ All2 (PV w g'.pr) vs' us
  | [], [], ws, W, k, g, hp, h, _, he => ⟨[], ws, g, he, hp, h, Keeps.refl _ _, trivial⟩
  | v :: vs, u :: us, ws, W, k, g, hp, h, hv, he => by
    obtain ⟨v', ws1, g1, he, hp1, h1, hk1, hv1⟩ := snap1_ev hp h hv.1 he
    obtain ⟨vs', ws2, g2, he, hp2, h2, hk2, hv2⟩ := snaps_ev hp1 h1 (hv.2.imp fun _ _ => VR.keeps hk1) he
    exact ⟨v' :: vs', ws2, g2, he, hp2, h2, hk1.trans hk2, hv1.keeps hk2.pr, hv2⟩
  | [], _ :: _, _, _, _, _, _, _, hv, _ => hv.elim
  | _ :: _, [], _, _, _, _, _, _, hv, _ => hv.elim
structure Reads (w : World) (pr : Nat → Nat → Prop) (T : Ty) (l : List T.den) (u : Value) : Prop where
  out : ∃ a c, u = .slice a l.length c ∧ l.length ≤ c ∧ (l = [] ∨ ∃ ad, a = some ad ∧
    ∀ (j : Nat) (x : T.den), l[j]? = some x → ∃ vs, vs.length = T.size ∧ (∀ (i : Nat) (v : Value), vs[i]? = some v → w.cell? (ad.add (j * T.size + i)) = some v) ∧ TR w pr T x vs)
theorem Reads.of_TR {pr : Nat → Nat → Prop} {T : Ty} {l : List T.den} {u : Value} (h : TR w pr (.slice T) l [u]) : Reads w pr T l u := by
  obtain ⟨ad, c, e, hc, hr⟩ := (show SlR _ _ _ _ _ _ from h)
  cases e
  refine ⟨ad, c, rfl, hc.1, ?_⟩
  cases l with
  | nil => exact .inl rfl
  | cons x l =>
    obtain ⟨a0, _, e0, _⟩ := hr 0 x rfl
    refine .inr ⟨a0, e0, fun j y hy => ?_⟩
    obtain ⟨a1, vs, e1, p, q, r⟩ := hr j y hy
    rw [e0] at e1; cases e1
    exact ⟨vs, p, fun i v hv => (q i v hv).1, r⟩
theorem TokOK.reads {μ : Bool} {B : Bd μ} {pr : Nat → Nat → Prop} {sh : Bool} {T : Ty} {l : List T.den} {tg : TG} (h : TokOK B w pr sh T l tg) : Reads w pr T l tg.val := by
  obtain ⟨_, ⟨e, _, rfl⟩ | ⟨k, cap, e, _, r⟩⟩ := h
  · exact ⟨none, 0, e, Nat.le_refl _, .inl rfl⟩
  · obtain ⟨us, el, fr, r1, r2, r3, r4⟩ := r.row
    refine ⟨some ⟨k, 0, none⟩, cap, e, r.len, .inr ⟨_, rfl, fun j x hx => ?_⟩⟩
    obtain ⟨vs, p, q, t⟩ := r4 j x hx
    refine ⟨vs, p, fun i v hv => ?_, t⟩
    rw [addr_add, Nat.zero_add, cell_of r1]; exact q i v hv
theorem content_ev (h : Rel B g s w a N) {T : Ty} {v : AV} {u : Value} {W : List Wr} {k : List T.den → Pg} (hv : LR w g v u) (he : (content T v k).Ev C Rd s W) :
    ∃ l, (k l).Ev C Rd s W ∧ Reads w g.pr T l u := by
  unfold content at he
  cases v with
  | nilsl => exact ⟨[], he, ⟨none, 0, hv, Nat.le_refl _, .inl rfl⟩⟩
  | sl T' l =>
    simp only [] at he
    cases hd : T'.dec T with
    | none => rw [hd] at he; exact he.elim
    | some hh => obtain ⟨rfl⟩ := hh; rw [hd] at he; exact ⟨l, he, Reads.of_TR hv⟩
  | nsl T' l =>
    simp only [] at he
    cases hd : T'.dec T with
    | none => rw [hd] at he; exact he.elim
    | some hh => obtain ⟨rfl⟩ := hh; rw [hd] at he; exact ⟨l, he, Reads.of_TR hv.1⟩
  | ref t =>
    simp only [] at he
    obtain ⟨_, he⟩ := he
    cases ht : s.toks t with
    | abs => rw [ht] at he; exact he.elim
    | dead => rw [ht] at he; exact he.elim
    | mlive _ _ => rw [ht] at he; exact he.elim
    | live sh T' l =>
      rw [ht] at he
      simp only [] at he
      cases hd : T'.dec T with
      | none => rw [hd] at he; exact he.elim
      | some hh =>
        obtain ⟨rfl⟩ := hh; rw [hd] at he
        obtain ⟨tg, e, ok⟩ := h.tk t sh T' l ht
        obtain ⟨tg', e', rfl, _⟩ := hv
        rw [e] at e'; cases e'
        exact ⟨l, he, ok.reads⟩
  | _ => exact he.elim
theorem Reads.flat {pr : Nat → Nat → Prop} {T : Ty} {l : List T.den} {u : Value} (h : Reads w pr T l u) :
    ∃ a c news, u = .slice a l.length c ∧ l.length ≤ c ∧ List.length news = l.length * T.size ∧ (a = none → l = []) ∧ (∀ ad, a = some ad → ∀ j v, news[j]? = some v → w.cell? (ad.add j) = some v) ∧
      (∀ v ∈ news, v.oneCell' = true) ∧ ∀ (j : Nat) (x : T.den), l[j]? = some x → ∃ vs, vs.length = T.size ∧ (∀ (i : Nat) (v : Value), vs[i]? = some v → news[j * T.size + i]? = some v) ∧ TR w pr T x vs := by
  obtain ⟨a, c, e, hc, hr⟩ := h.out
  refine ⟨a, c, ?_⟩
  have key : ∀ (l : List T.den) (f : Nat → Nat), (∀ (j : Nat) (x : T.den), l[j]? = some x → ∃ vs, vs.length = T.size ∧ (∀ (i : Nat) (v : Value), vs[i]? = some v → ∀ ad, a = some ad → w.cell? (ad.add (f j + i)) = some v) ∧ TR w pr T x vs) →
      ∃ news : List Value, news.length = l.length * T.size ∧ (∀ v ∈ news, v.oneCell' = true) ∧ ∀ (j : Nat) (x : T.den), l[j]? = some x → ∃ vs, vs.length = T.size ∧ (∀ (i : Nat) (v : Value), vs[i]? = some v → news[j * T.size + i]? = some v ∧ ∀ ad, a = some ad → w.cell? (ad.add (f j + i)) = some v) ∧ TR w pr T x vs := by
    intro l
    induction l with
    | nil => intro f _; exact ⟨[], by simp, by simp, fun j x hx => by simp at hx⟩
    | cons y l ih =>
      intro f hl
      obtain ⟨news, n1, n2, n3⟩ := ih (fun j => f (j + 1)) (fun j x hx => hl (j + 1) x (by simpa using hx))
      obtain ⟨vs, v1, v2, v3⟩ := hl 0 y rfl
      refine ⟨vs ++ news, by simp [n1, v1, Nat.add_mul]; omega, ?_, ?_⟩
      · intro v hv
        rcases List.mem_append.1 hv with hv | hv
        · exact v3.one v hv
        · exact n2 v hv
      · intro j x hx
        cases j with
        | zero =>
          simp at hx; subst hx
          refine ⟨vs, v1, fun i v hv => ⟨?_, fun ad had => v2 i v hv ad had⟩, v3⟩
          rw [Nat.zero_mul, Nat.zero_add, List.getElem?_append_left (List.getElem?_eq_some_iff.1 hv).1]; exact hv
        | succ j =>
          simp at hx
          obtain ⟨us, u1, u2, u3⟩ := n3 j x hx
          refine ⟨us, u1, fun i v hv => ⟨?_, (u2 i v hv).2⟩, u3⟩
          rw [List.getElem?_append_right (by rw [v1, Nat.add_mul]; omega), v1, Nat.add_mul]
          rw [show j * T.size + 1 * T.size + i - T.size = j * T.size + i from by omega]
          exact (u2 i v hv).1
  rcases hr with rfl | ⟨ad, rfl, hr⟩
  · exact ⟨[], e, hc, by simp, fun _ => rfl, fun _ _ j v hv => by simp at hv, by simp, fun j x hx => by simp at hx⟩
  · obtain ⟨news, n1, n2, n3⟩ := key l (fun j => j * T.size) (fun j x hx => by
      obtain ⟨vs, p, q, r⟩ := hr j x hx
      exact ⟨vs, p, fun i v hv ad' had => by cases had; exact q i v hv, r⟩)
    refine ⟨news, e, hc, n1, (fun h => by cases h), fun ad' had j v hv => ?_, n2, fun j x hx => ?_⟩
    · cases had
      have hj : j < l.length * T.size := by rw [← n1]; exact (List.getElem?_eq_some_iff.1 hv).1
      have hpos : 0 < T.size := by
        rcases Nat.eq_zero_or_pos T.size with h0 | h0
        · rw [h0] at hj; simp at hj
        · exact h0
      have hq : j / T.size < l.length := Nat.div_lt_of_lt_mul (by rw [Nat.mul_comm]; exact hj)
      have hm := Nat.mod_lt j hpos
      obtain ⟨vs, v1, v2, _⟩ := n3 (j / T.size) l[j / T.size] (by simp [hq])
      have hj2 : j / T.size * T.size + j % T.size = j := by rw [Nat.mul_comm]; exact Nat.div_add_mod j T.size
      obtain ⟨p, q⟩ := v2 (j % T.size) vs[j % T.size] (by simp [v1, hm])
      rw [hj2] at p q
      rw [hv] at p; cases p
      exact q _ rfl
    · obtain ⟨vs, v1, v2, v3⟩ := n3 j x hx
      exact ⟨vs, v1, fun i v hv => (v2 i v hv).1, v3⟩
end
end Go.Proofs.Ytjonpmckkmnemaa.Th
set_option linter.unusedVariables false
set_option linter.unusedSimpArgs false
namespace Go.Proofs.Ytjonpmckkmnemaa.Th
open Go Go.RowKit
def Goes (P : Program) {μ : Bool} (B : Bd μ) (N : Nat) (o : Oper) (s : S) (w : World) (a : Act) (ws : List Wr) : Prop :=
  ∀ (K : Act → World → Prop) (Q : Exit → Act → World → Prop), (∀ g' a' w', Rel B g' (s.puts ws) w' a' N → BelowB B w w' → K a' w') → o.wp P a w K Q
section
variable {P : Program} {TI : TEnv} {C : FuncId → List AV → AV → Prop} {Rd : Rs → Prop} {μ : Bool} {B : Bd μ} {N : Nat} {g g' : Gh} {s : S} {w w' : World} {a : Act} {o : Oper} {ws : List Wr}
theorem goes_value {u : Value} (hr : (execOp a.eval o).run P w = .ok (.value u) w') (h : Rel B g' (s.puts ws) w' (a.put o.dst u) N) (hb : BelowB B w w') : Goes P B N o s w a ws := by
  intro K Q hK
  unfold Oper.wp
  rw [hr]
  exact hK g' _ _ h hb
theorem goes_skip (hr : (execOp a.eval o).run P w = .ok .skip w') (h : Rel B g' (s.puts ws) w' (a.put o.dst undef) N) (hb : BelowB B w w') : Goes P B N o s w a ws := by
  intro K Q hK
  unfold Oper.wp
  rw [hr]
  exact hK g' _ _ h hb
theorem goes_pure (h : Rel B g s w a N) (hd : ∀ t, o.dst = some t → t < N) {v : AV} {u : Value} (hv : VR w g v u) (hr : (execOp a.eval o).run P w = .ok (.value u) w)
    (he : (retv o.dst v).Ev C Rd s ws) : Goes P B N o s w a ws := by
  have : ws = wrd o.dst v := he
  subst this
  exact goes_value hr (h.wrd hv hd) (BelowB.refl _ _)
theorem goes_move (h : Rel B g s w a N) (hd : ∀ t, o.dst = some t → t < N) {x : Operand} (ho : o.op = .move x ∨ o.op = .assign x) (he : (pg TI o).Ev C Rd s ws) : Goes P B N o s w a ws := by
  rcases ho with ho | ho
  all_goals
    unfold pg at he; rw [ho] at he
    obtain ⟨v, hv, he⟩ := rdv_ev h he
    exact goes_pure h hd hv (by simp [execOp, ho]) he
theorem VR_bool {b : Bool} {u : Value} (h : VR w g (.bool b) u) : u = .bool b := h
theorem VR_int {k : IntKind} {n : Int} {u : Value} (h : VR w g (.int k n) u) : u = .int k n := h
theorem VR_str {l : List UInt8} {u : Value} (h : VR w g (.str l) u) : u = strV l := h
theorem goes_pick (h : Rel B g s w a N) (hd : ∀ t, o.dst = some t → t < N) {c x y : Operand} (ho : o.op = .pick c x y)
    (he0 : (rdv c fun c => rdv x fun a => rdv y fun b => pgPick o.dst c a b).Ev C Rd s ws) : Goes P B N o s w a ws := by
  obtain ⟨v, hv, he1⟩ := rdv_ev h he0
  obtain ⟨v1, hv1, he2⟩ := rdv_ev h he1
  obtain ⟨v2, hv2, he⟩ := rdv_ev h he2
  clear he0 he1 he2
  have key : ∀ x' : Bool, v = .bool x' → (if x' then (retv o.dst v1).Ev C Rd s ws else (retv o.dst v2).Ev C Rd s ws) → Goes P B N o s w a ws := by
    rintro x' rfl hh
    have e := VR_bool hv
    cases x' with
    | true => exact goes_pure h hd (u := a.eval x) hv1 (by simp [execOp, ho, e, asBool]) (by simpa using hh)
    | false => exact goes_pure h hd (u := a.eval y) hv2 (by simp [execOp, ho, e, asBool]) (by simpa using hh)
  unfold pgPick at he
  split at he
  · exact key _ rfl (by split <;> rename_i e <;> simp [e] at he ⊢ <;> exact he)
  · exact key _ rfl he
  · exact he.elim
theorem goes_int (h : Rel B g s w a N) (hd : ∀ t, o.dst = some t → t < N) {k : IntKind} {n : Int} (hr : (execOp a.eval o).run P w = .ok (.value (.int k n)) w)
    (he : (retv o.dst (.int k n)).Ev C Rd s ws) : Goes P B N o s w a ws := goes_pure h hd (v := .int k n) (u := .int k n) (show _ = _ from rfl) hr he
theorem goes_bool (h : Rel B g s w a N) (hd : ∀ t, o.dst = some t → t < N) {b : Bool} (hr : (execOp a.eval o).run P w = .ok (.value (.bool b)) w)
    (he : (retv o.dst (.bool b)).Ev C Rd s ws) : Goes P B N o s w a ws := goes_pure h hd (v := .bool b) (u := .bool b) (show _ = _ from rfl) hr he
theorem goes_str (h : Rel B g s w a N) (hd : ∀ t, o.dst = some t → t < N) {l : List UInt8} (hr : (execOp a.eval o).run P w = .ok (.value (strV l)) w)
    (he : (retv o.dst (.str l)).Ev C Rd s ws) : Goes P B N o s w a ws := goes_pure h hd (v := .str l) (u := strV l) (show _ = _ from rfl) hr he
theorem goes_binInt (h : Rel B g s w a N) (hd : ∀ t, o.dst = some t → t < N) {op : BinOp} {xt yt : TypeId} {x y : Operand} (ho : o.op = .binOp op xt x y yt) {j j' : IntKind} {m n : Int}
    (hx : a.eval x = .int j m) (hy : a.eval y = .int j' n) (he : (binv op (.int j m) (.int j' n) fun v => retv o.dst v).Ev C Rd s ws) : Goes P B N o s w a ws := by
  have hg : ∀ (op : BinOp), (eqGuard op xt x y (.int j m) (.int j' n)).run P w = .ok () w := by
    intro op; unfold eqGuard; cases op <;> rfl
  have hex : ∀ v, (binOp op xt (.int j m) (.int j' n)).run P w = .ok v w → (execOp a.eval o).run P w = .ok (.value v) w := by
    intro v hv
    simp only [execOp, ho, hx, hy, Sem.run_bind, hg, Result.andThen_ok, hv, Sem.run_pure]
  unfold binv at he
  simp only [] at he
  split at he
  · obtain ⟨hb, he⟩ := he
    have : ¬ n < 0 := by simpa using hb
    exact goes_int h hd (hex _ (by simp only [binOp, Op.shift, this, if_false, Sem.run_pure])) he
  · obtain ⟨hb, he⟩ := he
    have : ¬ n < 0 := by simpa using hb
    exact goes_int h hd (hex _ (by simp only [binOp, Op.shift, this, if_false, Sem.run_pure])) he
  · rename_i n1 n2
    split at he
    · rename_i ejj; subst ejj
      split at he
      · exact goes_int h hd (hex _ (by simp [binOp, Op.intArith])) he
      · exact goes_int h hd (hex _ (by simp [binOp, Op.intArith])) he
      · exact goes_int h hd (hex _ (by simp [binOp, Op.intArith])) he
      · obtain ⟨hb, he⟩ := he
        have : ¬ n = 0 := by simpa using hb
        exact goes_int h hd (hex _ (by simp [binOp, Op.intDiv, this])) he
      · obtain ⟨hb, he⟩ := he
        have : ¬ n = 0 := by simpa using hb
        exact goes_int h hd (hex _ (by simp [binOp, Op.intDiv, this])) he
      · exact goes_int h hd (hex _ (by simp [binOp, Op.intBits, bits])) he
      · exact goes_int h hd (hex _ (by simp [binOp, Op.intBits, bits])) he
      · exact goes_int h hd (hex _ (by simp [binOp, Op.intBits, bits])) he
      · exact goes_int h hd (hex _ (by simp [binOp, Op.intBits, bits])) he
      · refine goes_bool h hd (hex _ ?_) he
        have : (m == n) = decide (m = n) := rfl
        simp [binOp, Op.intCmp, this]
      · refine goes_bool h hd (hex _ ?_) he
        have : (m != n) = !decide (m = n) := rfl
        simp [binOp, Op.intCmp, this]
      · exact goes_bool h hd (hex _ (by simp [binOp, Op.intCmp])) he
      · exact goes_bool h hd (hex _ (by simp [binOp, Op.intCmp])) he
      · exact goes_bool h hd (hex _ (by simp [binOp, Op.intCmp])) he
      · exact goes_bool h hd (hex _ (by simp [binOp, Op.intCmp])) he
      · exact he.elim
    · exact he.elim
theorem goes_binStr (h : Rel B g s w a N) (hd : ∀ t, o.dst = some t → t < N) {op : BinOp} {xt yt : TypeId} {x y : Operand} (ho : o.op = .binOp op xt x y yt) {m n : List UInt8}
    (hx : a.eval x = strV m) (hy : a.eval y = strV n) (he : (binv op (.str m) (.str n) fun v => retv o.dst v).Ev C Rd s ws) : Goes P B N o s w a ws := by
  have hg : ∀ (op : BinOp), (eqGuard op xt x y (strV m) (strV n)).run P w = .ok () w := by
    intro op; unfold eqGuard; cases op <;> rfl
  have hex : (execOp a.eval o).run P w = ((Op.stringOp op ⟨m.toArray⟩ ⟨n.toArray⟩).run P w).andThen fun v w' => .ok (.value v) w' := by
    have : binOp op xt (strV m) (strV n) = Op.stringOp op ⟨m.toArray⟩ ⟨n.toArray⟩ := by cases op <;> rfl
    simp [execOp, ho, hx, hy, hg, this]
  have hbe : (m == n) = decide (m = n) := by by_cases e : m = n <;> simp [e]
  unfold binv at he
  simp only [] at he
  split at he
  · obtain ⟨hb, he⟩ := he
    refine goes_str h hd ?_ he
    have hsz : ¬ (IntKind.i64.max < (((⟨m.toArray⟩ : ByteArray).size + (⟨n.toArray⟩ : ByteArray).size : Nat) : Int)) := by
      have : m.length + n.length ≤ 140737488355328 := by simpa using hb
      have e1 : (⟨m.toArray⟩ : ByteArray).size = m.length := by simp [ByteArray.size]
      have e2 : (⟨n.toArray⟩ : ByteArray).size = n.length := by simp [ByteArray.size]
      rw [e1, e2]
      have : IntKind.i64.max = 9223372036854775807 := by decide
      omega
    rw [hex]
    unfold Op.stringOp
    simp only [gt_iff_lt, hsz, if_false, Sem.run_pure, Result.andThen_ok, strV]
    congr 3
  · exact goes_bool h hd (by rw [hex]; simp [Op.stringOp, hbe]) he
  · exact goes_bool h hd (by rw [hex]; simp [Op.stringOp, hbe]) he
  · exact goes_bool h hd (by rw [hex]; simp [Op.stringOp, hbe]) he
  · exact goes_bool h hd (by rw [hex]; simp [Op.stringOp, hbe]) he
  · exact goes_bool h hd (by rw [hex]; simp [Op.stringOp, hbe]) he
  · exact goes_bool h hd (by rw [hex]; simp [Op.stringOp, hbe]) he
  · exact he.elim
theorem goes_binBool (h : Rel B g s w a N) (hd : ∀ t, o.dst = some t → t < N) {op : BinOp} {xt yt : TypeId} {x y : Operand} (ho : o.op = .binOp op xt x y yt) {m n : Bool} (ht : P.underlying xt = some .bool)
    (hx : a.eval x = .bool m) (hy : a.eval y = .bool n) (he : (binv op (.bool m) (.bool n) fun v => retv o.dst v).Ev C Rd s ws) : Goes P B N o s w a ws := by
  have hg : ∀ (op : BinOp), (eqGuard op xt x y (.bool m) (.bool n)).run P w = .ok () w := by
    intro op; unfold eqGuard; cases op <;> rfl
  have heq : (Op.equal xt (.bool m) (.bool n)).run P w = .ok (m == n) w := by
    have : ∀ d : Nat, (Op.equalIn (d + 1) xt (.bool m) (.bool n)).run P w = .ok (m == n) w := by
      intro d; simp only [Op.equalIn, Sem.run_bind, run_underlying ht, Result.andThen_ok, Sem.run_pure]
    exact this 9999
  unfold binv at he
  simp only [] at he
  split at he
  · exact goes_bool h hd (by simp [execOp, ho, hx, hy, hg, binOp, heq]) he
  · exact goes_bool h hd (by simp [execOp, ho, hx, hy, hg, binOp, heq]) he
  · exact he.elim
theorem VR_cpx {a b : Nat} {u : Value} (h : VR w g (.cpx a b) u) : u = .complex .f64 a b := h
theorem VR_flt {b : Nat} {u : Value} (h : VR w g (.flt b) u) : u = .float .f64 b := h
theorem goes_cpx (h : Rel B g s w a N) (hd : ∀ t, o.dst = some t → t < N) {x y : Nat} (hr : (execOp a.eval o).run P w = .ok (.value (.complex .f64 x y)) w)
    (he : (retv o.dst (.cpx x y)).Ev C Rd s ws) : Goes P B N o s w a ws := goes_pure h hd (v := .cpx x y) (u := .complex .f64 x y) (show _ = _ from rfl) hr he
theorem goes_flt (h : Rel B g s w a N) (hd : ∀ t, o.dst = some t → t < N) {x : Nat} (hr : (execOp a.eval o).run P w = .ok (.value (.float .f64 x)) w)
    (he : (retv o.dst (.flt x)).Ev C Rd s ws) : Goes P B N o s w a ws := goes_pure h hd (v := .flt x) (u := .float .f64 x) (show _ = _ from rfl) hr he
theorem goes_binCpx (h : Rel B g s w a N) (hd : ∀ t, o.dst = some t → t < N) {op : BinOp} {xt yt : TypeId} {x y : Operand} (ho : o.op = .binOp op xt x y yt) {p q r t : Nat} (ht : P.underlying xt = some (.complex .f64))
    (hx : a.eval x = .complex .f64 p q) (hy : a.eval y = .complex .f64 r t) (he : (cpxv op p q r t fun v => retv o.dst v).Ev C Rd s ws) : Goes P B N o s w a ws := by
  have hg : ∀ (op : BinOp), (eqGuard op xt x y (.complex .f64 p q) (.complex .f64 r t)).run P w = .ok () w := by
    intro op; unfold eqGuard; cases op <;> rfl
  have heq : (Op.equal xt (.complex .f64 p q) (.complex .f64 r t)).run P w = .ok (cSame p q r t) w := by
    have : ∀ d : Nat, (Op.equalIn (d + 1) xt (.complex .f64 p q) (.complex .f64 r t)).run P w = .ok (cSame p q r t) w := by
      intro d; simp only [Op.equalIn, Sem.run_bind, run_underlying ht, Result.andThen_ok, Sem.run_pure, if_true, cSame]
    exact this 9999
  have some_of : ∀ {o : Option (Nat × Nat)}, o.isSome = true → o = some (o.getD (0, 0)) := by
    intro o ho; cases o with
    | none => cases ho
    | some v => rfl
  unfold cpxv at he
  split at he
  · obtain ⟨h1, he⟩ := he
    have hr := run_complex_sum (P := P) w .add (.inl rfl) xt .f64 p q r t (cVal .add p q r t).1 (cVal .add p q r t).2 (some_of h1)
    exact goes_cpx h hd (by simp only [execOp, ho, hx, hy, Sem.run_bind, hg, Result.andThen_ok, hr, Sem.run_pure]) he
  · obtain ⟨h1, he⟩ := he
    have hr := run_complex_sum (P := P) w .sub (.inr rfl) xt .f64 p q r t (cVal .sub p q r t).1 (cVal .sub p q r t).2 (some_of h1)
    exact goes_cpx h hd (by simp only [execOp, ho, hx, hy, Sem.run_bind, hg, Result.andThen_ok, hr, Sem.run_pure]) he
  · obtain ⟨h1, he⟩ := he
    have hr := run_complex_mul (P := P) w xt p q r t (cVal .mul p q r t).1 (cVal .mul p q r t).2 (some_of h1)
    exact goes_cpx h hd (by simp only [execOp, ho, hx, hy, Sem.run_bind, hg, Result.andThen_ok, hr, Sem.run_pure]) he
  · exact goes_bool h hd (by simp [execOp, ho, hx, hy, hg, binOp, heq, Op.complexOp, cSame, Op.Complex.cmp, Op.floatCmp, asBool, Op.floatEq]) he
  · exact goes_bool h hd (by simp [execOp, ho, hx, hy, hg, binOp, heq, Op.complexOp, cSame, Op.Complex.cmp, Op.floatCmp, asBool, Op.floatEq]) he
  · exact he.elim
theorem goes_binFlt (h : Rel B g s w a N) (hd : ∀ t, o.dst = some t → t < N) {op : BinOp} {xt yt : TypeId} {x y : Operand} (ho : o.op = .binOp op xt x y yt) {p q : Nat} (ht : P.underlying xt = some (.float .f64))
    (hx : a.eval x = .float .f64 p) (hy : a.eval y = .float .f64 q) (he : (fltv op p q fun v => retv o.dst v).Ev C Rd s ws) : Goes P B N o s w a ws := by
  have hg : ∀ (op : BinOp), (eqGuard op xt x y (.float .f64 p) (.float .f64 q)).run P w = .ok () w := by
    intro op; unfold eqGuard; cases op <;> rfl
  have heq : (Op.equal xt (.float .f64 p) (.float .f64 q)).run P w = .ok (fltEq p q) w := by
    have : ∀ d : Nat, (Op.equalIn (d + 1) xt (.float .f64 p) (.float .f64 q)).run P w = .ok (fltEq p q) w := by
      intro d; simp only [Op.equalIn, Sem.run_bind, run_underlying ht, Result.andThen_ok, Sem.run_pure, if_true, fltEq, Op.floatEq]
    exact this 9999
  have hne : ∀ c : Option Ordering, (c != some .eq) = !(c == some .eq) := fun _ => rfl
  unfold fltv at he
  split at he
  · exact goes_bool h hd (by simp [execOp, ho, hx, hy, hg, binOp, heq, Op.floatCmp, fltEq]) he
  · exact goes_bool h hd (by simp [execOp, ho, hx, hy, hg, binOp, heq, Op.floatCmp, fltEq, hne]) he
  · exact goes_bool h hd (by simp [execOp, ho, hx, hy, hg, binOp, Op.floatCmp, fltLss]) he
  · exact goes_bool h hd (by simp [execOp, ho, hx, hy, hg, binOp, Op.floatCmp, fltLeq]) he
  · exact goes_bool h hd (by simp [execOp, ho, hx, hy, hg, binOp, Op.floatCmp, fltGtr]) he
  · exact goes_bool h hd (by simp [execOp, ho, hx, hy, hg, binOp, Op.floatCmp, fltGeq]) he
  · exact he.elim
theorem goes_un (h : Rel B g s w a N) (hd : ∀ t, o.dst = some t → t < N) {op : UnOp} {xt : TypeId} {x : Operand} (ho : o.op = .unOp op xt x)
    (he0 : (rdv x fun x => unv op x fun v => retv o.dst v).Ev C Rd s ws) : Goes P B N o s w a ws := by
  obtain ⟨v, hv, he⟩ := rdv_ev h he0
  clear he0
  unfold unv at he
  split at he
  · have e := VR_int hv
    exact goes_int h hd (by simp [execOp, ho, e, Op.unary, Op.intArith]) he
  · have e := VR_int hv
    exact goes_int h hd (by simp [execOp, ho, e, Op.unary, Op.intBits, bits]) he
  · have e := VR_bool hv
    exact goes_bool h hd (by simp [execOp, ho, e, Op.unary]) he
  · exact he.elim
end
end Go.Proofs.Ytjonpmckkmnemaa.Th
end
section
set_option linter.unusedVariables false
set_option linter.unusedSimpArgs false
namespace Go.Proofs.Ytjonpmckkmnemaa.Th
open Go Go.RowKit
section
variable {P : Program} {TI : TEnv} {C : FuncId → List AV → AV → Prop} {Rd : Rs → Prop} {μ : Bool} {B : Bd μ} {N : Nat} {g g' : Gh} {s : S} {w w' : World} {a : Act} {o : Oper} {ws : List Wr}
theorem alloc_new (w : World) (x : Obj) : (w.alloc x).heap[w.heap.size]? = some x := heap_alloc_new w x
theorem thawed0 (n : Nat) : Thawed (0, 0) n := ⟨Nat.le_refl _, fun o _ => by simp⟩
theorem thawT0 (sh : Bool) (T : Ty) (n : Nat) : ThawedT sh T (0, 0) n := ⟨thawed0 n, fun _ _ => rfl⟩
theorem below_alloc (h : Rel B g s w a N) (x : Obj) : BelowB B w (w.alloc x) := (BelowB.refl _ _).alloc h.hB x
theorem Rel.newBoxAt (h : Rel B g s w a N) {t : Nat} (htN : t < N) (ht : s.boxes t = none) {cs : List AV} {us : Array Value} (e : TypeId) (hc : All2 (LR w g) cs us.toList) :
    ∃ g', Rel B g' (s.put (.box t cs)) (w.alloc (.cells us e)) a N ∧ g'.β t = some w.heap.size := by
  obtain ⟨h1, k1⟩ := h.alloc (.cells us e)
  have hf : Fresh g s w.heap.size := h.fresh (Nat.le_refl _)
  have hb : BoxOK B (w.alloc (.cells us e)) g cs w.heap.size :=
    ⟨.inl h.hB, fun o p => by have := h.prlt _ o p; omega, us, e, (0, 0), alloc_new w _, thawed0 _, hc.imp fun _ _ => LR.keeps k1⟩
  obtain ⟨h2, _⟩ := h1.newBox htN ht hf hb
  exact ⟨_, h2, by simp [upd_same]⟩
theorem LR_ptr {b k o : Nat} (h : g.β b = some k) : VR w g (.ptr b o) (.pointer (some ⟨k, o, none⟩)) := ⟨k, h, rfl⟩
theorem goes_alloc (hT : TIok P TI) (h : Rel B g s w a N) (hd : ∀ t, o.dst = some t → t < N) {e : TypeId} (ho : o.op = .alloc e) {tt : Tmp} (hdst : o.dst = some tt)
    (he : (tinf TI e fun i => .box tt fun | none => .ret [.box tt i.zero, .tmp tt (.ptr tt 0)] | some _ => .fail).Ev C Rd s ws) : Goes P B N o s w a ws := by
  unfold tinf at he
  cases hi : TI e with
  | none => rw [hi] at he; exact he.elim
  | some i =>
    rw [hi] at he
    obtain ⟨_, he⟩ := he
    cases hb : s.boxes tt with
    | some c => rw [hb] at he; exact he.elim
    | none =>
      rw [hb] at he
      have : ws = _ := he
      subst this
      obtain ⟨ti, d, z, T⟩ := hT.get hi
      obtain ⟨g', h1, hβ⟩ := h.newBoxAt (hd tt hdst) hb (us := z.cells) e (z0s_LR T.zrel)
      have h2 := h1.tmp (LR_ptr (o := 0) hβ) (hd tt hdst)
      refine goes_value (w' := w.alloc (.cells z.cells e)) (u := .pointer (some ⟨w.heap.size, 0, none⟩)) ?_ (by rw [hdst]; exact h2) (below_alloc h _)
      simp [execOp, ho, Instr.alloc, zeroValue, typeInfo, T.info, T.zero, newVar, newRow]
theorem LR_one {v : AV} {u : Value} (h : LR w g v u) (hv : v.isVal = true) (hl : ∀ b o f, v ≠ .lev b o f) : (∃ cs us, v = .agg cs ∧ u = .agg (List.toArray us) ∧ All2 (PR w g.pr) cs us) ∨ (v.cells = [v] ∧ u.cells = #[u] ∧ u.oneCell' = true) := by
  have key : u.oneCell' = true → u.cells = #[u] := by intro h; cases u <;> first | rfl | (simp [Value.oneCell'] at h)
  cases v with
  | undef => cases hv
  | tup l => cases hv
  | own T l => exact h.elim
  | lent l => exact h.elim
  | back v l => exact h.elim
  | gar e T l => obtain ⟨ad, rfl, _⟩ := h; exact .inr ⟨rfl, rfl, rfl⟩
  | ifv t T x => exact .inr ⟨rfl, key (PR.one (v := .ifv t T x) h), PR.one (v := .ifv t T x) h⟩
  | fnv t T x => exact .inr ⟨rfl, key (PR.one (v := .fnv t T x) h), PR.one (v := .fnv t T x) h⟩
  | imm T x => exact .inr ⟨rfl, key (PR.one (v := .imm T x) h), PR.one (v := .imm T x) h⟩
  | fz v => cases hv
  | agg cs => obtain ⟨us, a, b⟩ := h; exact .inl ⟨cs, us, rfl, a, b⟩
  | ref t => obtain ⟨tg, h1, h2, h3⟩ := h; exact .inr ⟨rfl, key h3, h3⟩
  | ptr b o => obtain ⟨k, h1, rfl⟩ := h; exact .inr ⟨rfl, rfl, rfl⟩
  | pim cs o => obtain ⟨ad, us, rfl, _⟩ := h; exact .inr ⟨rfl, rfl, rfl⟩
  | pel t i o => obtain ⟨tg, k, _, _, rfl⟩ := h; exact .inr ⟨rfl, rfl, rfl⟩
  | view t i => obtain ⟨tg, A, A0, n, c, c', _, _, rfl, _⟩ := h; exact .inr ⟨rfl, rfl, rfl⟩
  | parr b o n e i => obtain ⟨_, k, _, rfl⟩ := h; exact .inr ⟨rfl, rfl, rfl⟩
  | lev b o f => exact absurd rfl (hl _ _ _)
  | mp t => obtain ⟨tg, k, _, rfl, e⟩ := h; rw [e]; exact .inr ⟨rfl, rfl, rfl⟩
  | fn f c => obtain ⟨us, rfl, _⟩ := h; exact .inr ⟨rfl, rfl, rfl⟩
  | sl T l => exact .inr ⟨rfl, key (PR.one (v := .sl T l) h), PR.one (v := .sl T l) h⟩
  | nsl T l => exact .inr ⟨rfl, key (PR.one (v := .sl T l) h.1), PR.one (v := .sl T l) h.1⟩
  | _ => rw [show u = _ from h]; exact .inr ⟨rfl, rfl, rfl⟩
theorem LR_cells {v : AV} {u : Value} (h : LR w g v u) (hv : v.isVal = true) : All2 (LR w g) v.cells u.cells.toList ∧ ∀ x ∈ u.cells.toList, x.oneCell' = true := by
  by_cases hl : ∃ b o f, v = .lev b o f
  · obtain ⟨b, o, f, rfl⟩ := hl
    obtain ⟨k, hβ, rfl⟩ := h
    exact ⟨⟨⟨k, hβ, rfl⟩, ⟨[], rfl, rfl⟩, trivial⟩, by simp [Value.cells, Value.oneCell']⟩
  rcases LR_one h hv (fun b o f e => hl ⟨b, o, f, e⟩) with ⟨cs, us, rfl, rfl, h2⟩ | ⟨e1, e2, e3⟩
  · exact ⟨by simpa [AV.cells, Value.cells] using h2.imp fun _ _ => LR_of_PR, by simpa [Value.cells] using h2.one⟩
  · rw [e1, e2]; exact ⟨⟨h, trivial⟩, by simpa using e3⟩
theorem VR_val {v : AV} {u : Value} (h : VR w g v u) (hv : v.isVal = true) : LR w g v u := by
  rcases VR_or h with ⟨vs, rfl, _⟩ | h
  · cases hv
  · exact h
theorem goes_box (h : Rel B g s w a N) (hd : ∀ t, o.dst = some t → t < N) {e : TypeId} {x : Operand} (ho : o.op = .box e x) {tt : Tmp} (hdst : o.dst = some tt)
    (he : (rdv x fun v => match v.isVal with
      | true => .box tt fun
        | none => .ret [.box tt v.cells, .tmp tt (.ptr tt 0)]
        | some _ => .fail
      | false => .fail).Ev C Rd s ws) : Goes P B N o s w a ws := by
  obtain ⟨v, hv, he⟩ := rdv_ev h he
  cases hval : v.isVal with
  | false => rw [hval] at he; exact he.elim
  | true =>
    rw [hval] at he
    obtain ⟨_, he⟩ := he
    cases hb : s.boxes tt with
    | some c => rw [hb] at he; exact he.elim
    | none =>
      rw [hb] at he
      have : ws = _ := he
      subst this
      obtain ⟨g', h1, hβ⟩ := h.newBoxAt (hd tt hdst) hb (us := (a.eval x).cells) e (LR_cells (VR_val hv hval) hval).1
      have h2 := h1.tmp (LR_ptr (o := 0) hβ) (hd tt hdst)
      refine goes_value (w' := w.alloc (.cells (a.eval x).cells e)) (u := .pointer (some ⟨w.heap.size, 0, none⟩)) ?_ (by rw [hdst]; exact h2) (below_alloc h _)
      simp [execOp, ho, Instr.box, newVar, newRow]
def At (w : World) (ad : Addr) (us : List Value) : Prop := ∀ (j : Nat) (u : Value), us[j]? = some u → w.cell? (ad.add j) = some u
theorem At.off {ad : Addr} {us : List Value} (h : At w ad us) (o : Nat) : At w (ad.add o) (us.drop o) := by
  intro j u hu
  rw [add_add]
  exact h (o + j) u (by simpa [List.getElem?_drop] using hu)
theorem At.take {ad : Addr} {us : List Value} (h : At w ad us) (n : Nat) : At w ad (us.take n) := by
  intro j u hu
  refine h j u ?_
  rw [List.getElem?_take] at hu
  split at hu
  · exact hu
  · cases hu
theorem run_loadVar {t : TypeId} {i : TInfo} {ti : TypeInfo} {d : TypeDesc} {z : Value} (T : TypeIs P t i ti d z) {ad : Addr} {us : List Value} (h : At w ad us) :
    (i.kn.isSt = true → us.length = i.size → (loadVar t ad).run P w = .ok (.agg us.toArray) w) ∧
    (i.kn.isSt = false → ∀ u, us[0]? = some u → (loadVar t ad).run P w = .ok u w) := by
  constructor
  · intro hs hl
    have := run_loadCells_list (P := P) w ad us h
    simp only [loadVar, Sem.run_bind, T.isAgg, hs, Result.andThen_ok, if_true, T.sizeOf, ← hl, this, Sem.run_pure]
  · intro hs u hu
    have h0 := h 0 u hu
    have e : ad.add 0 = ad := by simp [Addr.add]
    rw [e] at h0
    simp [loadVar, T.isAgg, hs, h0]
theorem PV_plain {pr : Nat → Nat → Prop} : ∀ {vs : List AV} {xs : List Value}, All2 (PV w pr) vs xs → vs.all isPlainCell = true → All2 (PR w pr) vs xs
  | [], [], _, _ => trivial
  | v :: vs, x :: xs, h, hp => by
    simp only [List.all_cons, Bool.and_eq_true] at hp
    refine ⟨?_, PV_plain h.2 hp.2⟩
    rcases h.1 with p | ⟨_, _, e, _, _⟩
    · exact p
    · rw [e] at hp; exact Bool.noConfusion (show false = true from hp.1)
  | [], _ :: _, h, _ => h.elim
  | _ :: _, [], h, _ => h.elim
theorem LR_unfz {v : AV} {u : Value} (h : LR w g v u) : LR w g (unfz v) u := by
  cases v with
  | fz c => exact LR_of_PR h
  | _ => exact h
theorem unfz_all : ∀ {cs : List AV} {us : List Value}, All2 (LR w g) cs us → All2 (LR w g) (cs.map unfz) us
  | [], [], _ => trivial
  | _ :: _, _ :: _, h => ⟨LR_unfz h.1, unfz_all h.2⟩
  | [], _ :: _, h => h.elim
  | _ :: _, [], h => h.elim
theorem cut_ev {t : TypeId} {i : TInfo} {ti : TypeInfo} {d : TypeDesc} {z : Value} (T : TypeIs P t i ti d z) (h : Rel B g s w a N) {cs : List AV} {us : List Value} (hc : All2 (LR w g) cs us) {ad : Addr} (hat : At w ad us)
    {off : Nat} {dst : Option Tmp} (he : (cut i cs off [] fun v ws' => .ret (ws' ++ wrd dst v)).Ev C Rd s ws) (hd : ∀ t, dst = some t → t < N) :
    ∃ u g', (loadVar t (ad.add off)).run P w = .ok u w ∧ Rel B g' (s.puts ws) w (a.put dst u) N := by
  unfold cut at he
  cases hs : i.kn.isSt with
  | true =>
    rw [hs] at he
    simp only [] at he
    cases hl : decide (off + i.size ≤ cs.length) with
    | false => rw [hl] at he; exact he.elim
    | true =>
      rw [hl] at he
      simp only [cond_true] at he
      have hlen : off + i.size ≤ cs.length := by simpa using hl
      obtain ⟨vs', ws', g', he2, hp, h2, hk, hv⟩ := snaps_ev (Promo.refl s) (by simpa [S.puts] using h) ((unfz_all ((hc.drop off).take i.size)).imp fun _ _ => VR_of_LR) he
      cases hpl : vs'.all isPlainCell with
      | false => rw [hpl] at he2; exact he2.elim
      | true =>
        rw [hpl] at he2
        have : ws = ws' ++ wrd dst (.agg vs') := he2
        subst this
        refine ⟨.agg ((us.drop off).take i.size).toArray, g', ((run_loadVar T ((hat.off off).take i.size)).1 hs (by have := hc.len; simp; omega)), ?_⟩
        rw [S.puts_append]
        refine h2.wrd (VR_of_LR (show LR w g' (.agg vs') _ from ⟨_, rfl, PV_plain hv hpl⟩)) hd
  | false =>
    rw [hs] at he
    simp only [] at he
    cases hq : cs[off]? with
    | none => rw [hq] at he; exact he.elim
    | some v =>
      rw [hq] at he
      have : ws = [] ++ wrd dst (unfz v) := he
      subst this
      obtain ⟨u, hu, hr⟩ := hc.get off v hq
      refine ⟨u, g, (run_loadVar T (hat.off off)).2 hs u (by simpa [List.getElem?_drop] using hu), ?_⟩
      exact h.wrd (VR_of_LR (LR_unfz hr)) hd
theorem execOp_load {t : TypeId} {x : Operand} (ho : o.op = .load t x) {ad : Addr} (hx : a.eval x = .pointer (some ad)) {u : Value} (hl : (loadVar t ad).run P w = .ok u w) :
    (execOp a.eval o).run P w = .ok (.value u) w := by
  simp [execOp, ho, hx, Instr.loadAt, Instr.sureAddr, hl]
theorem row_at {us : Array Value} {e : TypeId} {fr : Nat × Nat} {k : Nat} (h : w.heap[k]? = some (.cells us e fr)) : At w ⟨k, 0, none⟩ us.toList := by
  intro j u hu
  rw [addr_add, Nat.zero_add, cell_of h]
  simpa using hu
theorem arr_at {cs : List AV} {us : List Value} {e : Ty} {n off j : Nat} {l : List (List e.den)} (hc : All2 (LR w g) cs us) (ho : oArr e n (((cs.drop off).take n).map unfz) = some l) (hj : j < n) :
    ∃ u, us[off + j]? = some u ∧ PR w g.pr (.sl e (l.getD j [])) u := by
  have hl := (oArr_len ho).1
  obtain ⟨v, hv, hs⟩ := oArr_get ho j l[j] (List.getElem?_eq_getElem (by omega))
  obtain ⟨u, hu, hr⟩ := (unfz_all ((hc.drop off).take n)).get j v hv
  rw [List.getElem?_take_of_lt hj, List.getElem?_drop] at hu
  refine ⟨u, hu, ?_⟩
  have hg : l.getD j [] = l[j] := by simp [List.getD, show j < l.length by omega]
  rw [hg]
  have hp : PR w g.pr v u := by
    rcases oSl_eq hs with ⟨h1, _⟩ | h1 <;> cases h1 <;> exact hr
  exact oSl_TR hs hp
theorem goes_load (hT : TIok P TI) (h : Rel B g s w a N) (hd : ∀ t, o.dst = some t → t < N) {t : TypeId} {x : Operand} (ho : o.op = .load t x)
    (he0 : (rdv x fun p => pgLoad TI o.dst t p).Ev C Rd s ws) : Goes P B N o s w a ws := by
  obtain ⟨v, hv, he⟩ := rdv_ev h he0
  clear he0
  unfold pgLoad tinf at he
  cases hi : TI t with
  | none => rw [hi] at he; exact he.elim
  | some i =>
    rw [hi] at he
    obtain ⟨ti, d, z, T⟩ := hT.get hi
    cases v with
    | ptr b off =>
      simp only [] at he
      obtain ⟨_, he⟩ := he
      cases hb : s.boxes b with
      | none => rw [hb] at he; exact he.elim
      | some cs =>
        rw [hb] at he
        obtain ⟨k, hβ, ok⟩ := h.bx b cs hb
        obtain ⟨us, e, fr, r1, r2, r3⟩ := ok.row
        obtain ⟨k', hβ', hu⟩ := hv
        rw [hβ] at hβ'; cases hβ'
        obtain ⟨u, g', hl, h2⟩ := cut_ev T h r3 (row_at r1) he hd
        rw [addr_add, Nat.zero_add] at hl
        exact goes_value (execOp_load ho hu hl) h2 (BelowB.refl _ _)
    | pim cs off =>
      simp only [] at he
      obtain ⟨ad, us, hu, hc, hcell⟩ := hv
      obtain ⟨u, g', hl, h2⟩ := cut_ev T h (hc.imp fun _ _ => LR_of_PR) (fun j u hu => (hcell j u hu).1) he hd
      exact goes_value (execOp_load ho hu hl) h2 (BelowB.refl _ _)
    | imm T0 x0 =>
      simp only [] at he
      obtain ⟨ad, us, hu, hcell, htr⟩ := (show TR w g.pr (.ref T0) x0 [_] from hv)
      have hu : a.eval x = .pointer (some ad) := by simpa using hu
      obtain ⟨u, g', hl, h2⟩ := cut_ev T h ((cells_PR htr).imp fun _ _ => LR_of_PR) (fun j u hu => (hcell j u hu).1) he hd
      have e0 : ad.add 0 = ad := by simp [Addr.add]
      rw [e0] at hl
      exact goes_value (execOp_load ho hu hl) h2 (BelowB.refl _ _)
    | pel t' j off =>
      simp only [] at he
      obtain ⟨_, he⟩ := he
      cases ht : s.toks t' with
      | abs => rw [ht] at he; exact he.elim
      | dead => rw [ht] at he; exact he.elim
      | mlive _ _ => rw [ht] at he; exact he.elim
      | live sh T' l =>
        rw [ht] at he
        obtain ⟨hj, he⟩ := he
        have hj : j < l.length := by simpa using hj
        obtain ⟨tg, hτ, ez, r⟩ := h.tk t' sh T' l ht
        obtain ⟨tg', k, hτ', hblk, hu⟩ := hv
        rw [hτ] at hτ'; cases hτ'
        rcases r with ⟨_, e, _⟩ | ⟨k', cap, _, e, r⟩
        · rw [hblk] at e; cases e
        · rw [hblk] at e; cases e
          obtain ⟨us, el, fr, r1, r2, r3, r4⟩ := r.row
          obtain ⟨vs, v1, v2, v3⟩ := r4 j l[j] (by simp [hj])
          have hget : l.getD j T'.dflt = l[j] := by simp [List.getD, hj]
          rw [hget] at he
          have hat : At w ⟨k, j * T'.size, none⟩ vs := by
            intro i u hu
            rw [addr_add, cell_of r1]; exact v2 i u hu
          obtain ⟨u, g', hl, h2⟩ := cut_ev T h ((cells_PR v3).imp fun _ _ => LR_of_PR) hat he hd
          rw [addr_add, ← ez] at hl
          exact goes_value (execOp_load ho hu hl) h2 (BelowB.refl _ _)
    | parr b off n e j =>
      simp only [] at he
      obtain ⟨_, he⟩ := he
      cases hb : s.boxes b with
      | none => rw [hb] at he; exact he.elim
      | some cs =>
        rw [hb] at he
        simp only [] at he
        cases hsl : isSlK i.kn with
        | false => rw [hsl] at he; exact he.elim
        | true =>
          cases hoa : oArr e n (((cs.drop off).take n).map unfz) with
          | none => rw [hsl, hoa] at he; exact he.elim
          | some l =>
            rw [hsl, hoa] at he
            simp only [] at he
            obtain ⟨k, hβ, ok⟩ := h.bx b cs hb
            obtain ⟨us, el, fr, r1, r2, r3⟩ := ok.row
            obtain ⟨hj, k', hβ', hu⟩ := hv
            rw [hβ] at hβ'; cases hβ'
            obtain ⟨u, hu2, hr⟩ := arr_at r3 hoa hj
            have hst : i.kn.isSt = false := by cases hkn : i.kn <;> rw [hkn] at hsl <;> first | rfl | cases hsl
            have hld := (run_loadVar (P := P) T ((row_at r1).off (off + j))).2 hst u (by simpa [List.getElem?_drop] using hu2)
            rw [addr_add, Nat.zero_add] at hld
            exact goes_pure h hd (VR_of_LR (LR_of_PR (v := .sl e (l.getD j [])) hr)) (execOp_load ho hu hld) he
    | _ => exact he.elim
end
end Go.Proofs.Ytjonpmckkmnemaa.Th
set_option linter.unusedVariables false
set_option linter.unusedSimpArgs false
namespace Go.Proofs.Ytjonpmckkmnemaa.Th
open Go Go.RowKit
section
variable {P : Program} {TI : TEnv} {C : FuncId → List AV → AV → Prop} {Rd : Rs → Prop} {μ : Bool} {B : Bd μ} {N : Nat} {g g' : Gh} {s : S} {w w' : World} {a : Act} {o : Oper} {ws : List Wr}
theorem run_storeVar {t : TypeId} {i : TInfo} {ti : TypeInfo} {d : TypeDesc} {z : Value} (T : TypeIs P t i ti d z) {k off : Nat} {us : Array Value} {e : TypeId} {fr : Nat × Nat}
    (hr : w.heap[k]? = some (.cells us e fr)) (ht : Thawed fr us.size) {u : Value} (hn : u.cells.size = i.size) (hl : off + i.size ≤ us.size) (h1 : ∀ x ∈ u.cells.toList, x.oneCell' = true) :
    (storeVar t ⟨k, off, none⟩ u).run P w = .ok () (w.setRow k (over us.toList off u.cells.toList).toArray) := by
  have := run_storeRow (P := P) u.cells.toList off 0 w us hr ht (by simp; omega) h1
  simp only [storeVar, Sem.run_bind, T.sizeOf, Result.andThen_ok, hn, ne_eq, not_true_eq_false, if_false, this, Nat.add_zero, Sem.run_ite, Sem.run_pure]
theorem execOp_store {t : TypeId} {x y : Operand} (ho : o.op = .store t x y) {ad : Addr} (hx : a.eval x = .pointer (some ad)) (hl : (storeVar t ad (a.eval y)).run P w = .ok () w') :
    (execOp a.eval o).run P w = .ok .skip w' := by
  simp [execOp, ho, hx, Instr.storeAt, Instr.sureAddr, hl]
theorem over_All2 {R : AV → Value → Prop} {cs vs : List AV} {us xs : List Value} {off : Nat} (h : All2 R cs us) (k : All2 R vs xs) : All2 R (splice cs off vs) (over us off xs) := by
  unfold splice over
  rw [k.len]
  exact ((h.take off).append k).append (h.drop _)
theorem touches_toks {t : Nat} : ∀ {ws : List Wr} {s : S}, touches t ws = false → (s.puts ws).toks t = s.toks t
  | [], s, _ => rfl
  | x :: ws, s, h => by
    cases x with
    | tok u c =>
      simp only [touches, Bool.or_eq_false_iff] at h
      have hne : t ≠ u := fun e => by rw [e, beq_self] at h; cases h.1
      rw [S.puts, touches_toks h.2]
      simp [S.put, upd_ne _ _ _ _ hne]
    | tmp u c => rw [S.puts, touches_toks (by simpa [touches] using h)]; rfl
    | box u c => rw [S.puts, touches_toks (by simpa [touches] using h)]; rfl
theorem rowOf_set {pr : Nat → Nat → Prop} {T : Ty} {l : List T.den} {us : Array Value} {x : T.den} {j off : Nat} {xs : List Value} (h : RowOf w pr T l us) (hj : j < l.length) (hoff : off + xs.length ≤ T.size)
    (hfit : l.length * T.size ≤ us.size) (hx : ∀ vs : List Value, vs.length = T.size → (∀ (i : Nat) (v : Value), vs[i]? = some v → us[j * T.size + i]? = some v) → TR w pr T l[j] vs → TR w pr T x (over vs off xs)) :
    RowOf w pr T (l.set j x) (over us.toList (j * T.size + off) xs).toArray := by
  have hjs : (j + 1) * T.size ≤ l.length * T.size := Nat.mul_le_mul_right _ hj
  have hjs2 : (j + 1) * T.size = j * T.size + T.size := by rw [Nat.add_mul]; omega
  have hfit2 : j * T.size + off + xs.length ≤ us.toList.length := by simp; omega
  intro j' y hy
  by_cases e : j' = j
  · subst e
    simp [hj] at hy; subst hy
    obtain ⟨vs, v1, v2, v3⟩ := h j' l[j'] (by simp [hj])
    refine ⟨over vs off xs, by rw [over_len (by omega)]; exact v1, fun i v hv => ?_, hx vs v1 v2 v3⟩
    have hi : i < T.size := by have := (List.getElem?_eq_some_iff.1 hv).1; rw [over_len (by omega), v1] at this; exact this
    rw [List.getElem?_toArray, over_get hfit2]
    rw [over_get (by omega)] at hv
    by_cases a1 : i < off
    · rw [if_pos a1] at hv
      rw [if_pos (by omega)]
      simpa using v2 i v hv
    · rw [if_neg a1] at hv
      rw [if_neg (by omega)]
      by_cases a2 : i < off + xs.length
      · rw [if_pos a2] at hv
        rw [if_pos (by omega), show j' * T.size + i - (j' * T.size + off) = i - off from by omega]; exact hv
      · rw [if_neg a2] at hv
        rw [if_neg (by omega)]
        simpa using v2 i v hv
  · rw [List.getElem?_set_ne (Ne.symm e)] at hy
    obtain ⟨vs, v1, v2, v3⟩ := h j' y hy
    refine ⟨vs, v1, fun i v hv => ?_, v3⟩
    have hi : i < T.size := by rw [← v1]; exact (List.getElem?_eq_some_iff.1 hv).1
    rw [List.getElem?_toArray, over_get hfit2]
    have hv2 := v2 i v hv
    rcases Nat.lt_or_gt_of_ne e with lt | gt
    · have : (j' + 1) * T.size ≤ j * T.size := Nat.mul_le_mul_right _ lt
      have : (j' + 1) * T.size = j' * T.size + T.size := by rw [Nat.add_mul]; omega
      rw [if_pos (by omega)]; simpa using hv2
    · have : (j + 1) * T.size ≤ j' * T.size := Nat.mul_le_mul_right _ gt
      rw [if_neg (by omega), if_neg (by omega)]; simpa using hv2
theorem nofz {cs : List AV} {off n o : Nat} {v : AV} (h : ((cs.drop off).take n).any isFz = false) (ho : cs[o]? = some (.fz v)) : o < off ∨ off + n ≤ o := by
  by_cases h1 : o < off
  · exact .inl h1
  · by_cases h2 : off + n ≤ o
    · exact .inr h2
    · have hm : ((cs.drop off).take n)[o - off]? = some (.fz v) := by
        rw [List.getElem?_take_of_lt (by omega), List.getElem?_drop, show off + (o - off) = o by omega, ho]
      rw [List.any_eq_false] at h
      exact absurd rfl (h _ (List.mem_of_getElem? hm))
theorem splice_out {cs new : List AV} {off o : Nat} (hf : off + new.length ≤ cs.length) (h : o < off ∨ off + new.length ≤ o) : (splice cs off new)[o]? = cs[o]? := by
  unfold splice
  have hl : (cs.take off).length = off := by simp; omega
  rcases h with h | h
  · rw [List.append_assoc, List.getElem?_append_left (by omega), List.getElem?_take_of_lt h]
  · rw [List.getElem?_append_right (by simp; omega), List.getElem?_drop]
    congr 1
    simp; omega
theorem arr_at0 {cs : List AV} {us : List Value} {e : Ty} {n off j : Nat} {l : List (List e.den)} (hc : All2 (LR w g) cs us) (ho : oArr e n ((cs.drop off).take n) = some l) (hj : j < n) :
    (∃ u, us[off + j]? = some u ∧ PR w g.pr (.sl e (l.getD j [])) u) ∧ ∀ v, cs[off + j]? ≠ some (.fz v) := by
  have hl := (oArr_len ho).1
  obtain ⟨v, hv, hs⟩ := oArr_get ho j l[j] (List.getElem?_eq_getElem (by omega))
  rw [List.getElem?_take_of_lt hj, List.getElem?_drop] at hv
  obtain ⟨u, hu, hr⟩ := hc.get _ v hv
  have hg : l.getD j [] = l[j] := by simp [List.getD, show j < l.length by omega]
  have hp : PR w g.pr v u := by
    rcases oSl_eq hs with ⟨h1, _⟩ | h1 <;> cases h1 <;> exact hr
  refine ⟨⟨u, hu, ?_⟩, fun v2 h2 => ?_⟩
  · rw [hg]; exact oSl_TR hs hp
  · rw [hv] at h2
    cases h2
    rcases oSl_eq hs with ⟨h1, _⟩ | h1 <;> cases h1
theorem arr_set {cs : List AV} {us : List Value} {e : Ty} {n off j : Nat} {l : List (List e.den)} {x : List e.den} {u : Value} (hc : All2 (LR w g) cs us) (ho : oArr e n ((cs.drop off).take n) = some l) (hj : j < n)
    (hu : PR w g.pr (.sl e x) u) : All2 (LR w g) (splice cs off ((Ty.arr n e).cells (l.set j x))) (over us (off + j) [u]) := by
  have hl := (oArr_len ho).1
  have hcl := (oArr_len ho).2
  have hfit : off + n ≤ cs.length := by simp at hcl; omega
  have hlen := hc.len
  have hcell : ((Ty.arr n e).cells (l.set j x)).length = n := by simp [Ty.cells]
  refine All2.of_get ?_ fun i a b ha hb => ?_
  · rw [over_len (by simp; omega)]
    simp only [splice, List.length_append, List.length_take, List.length_drop, hcell]; omega
  · rw [over_get (by simp; omega)] at hb
    simp only [List.length_singleton] at hb
    by_cases h1 : i < off ∨ off + n ≤ i
    · rw [splice_out (by omega) (by omega)] at ha
      obtain ⟨b', q1, q2⟩ := hc.get i a ha
      have : us[i]? = some b := by
        by_cases h2 : i < off + j
        · rw [if_pos h2] at hb; exact hb
        · rw [if_neg h2, if_neg (by omega)] at hb; exact hb
      rw [q1] at this; cases this
      exact q2
    · have ha2 : a = .sl e ((l.set j x).getD (i - off) []) := by
        unfold splice at ha
        rw [List.append_assoc, List.getElem?_append_right (by simp; omega), List.getElem?_append_left (by rw [hcell]; simp; omega)] at ha
        simp only [List.length_take, Ty.cells, List.getElem?_map] at ha
        rw [show min off cs.length = off by omega, List.getElem?_range (by omega)] at ha
        exact (Option.some.inj ha).symm
      subst ha2
      by_cases h2 : i = off + j
      · subst h2
        rw [if_neg (by omega), if_pos (by omega), show off + j - (off + j) = 0 by omega] at hb
        cases hb
        rw [show off + j - off = j by omega]
        have : (l.set j x).getD j [] = x := by simp [List.getD, show j < l.length by omega]
        rw [this]; exact LR_of_PR hu
      · have hb2 : us[i]? = some b := by
          by_cases h3 : i < off + j
          · rw [if_pos h3] at hb; exact hb
          · rw [if_neg h3, if_neg (by omega)] at hb; exact hb
        obtain ⟨⟨u', q1, q2⟩, _⟩ := arr_at0 hc ho (show i - off < n by omega)
        rw [show off + (i - off) = i by omega, hb2] at q1; cases q1
        have : (l.set j x).getD (i - off) [] = l.getD (i - off) [] := by
          simp only [List.getD, List.getElem?_set_ne (show j ≠ i - off by omega)]
        rw [this]; exact LR_of_PR q2
theorem goes_store (hT : TIok P TI) (h : Rel B g s w a N) (hd : o.dst = none) {t : TypeId} {x y : Operand} (ho : o.op = .store t x y)
    (he0 : (rdv x fun p => rdv y fun v => pgStore TI t p v).Ev C Rd s ws) : Goes P B N o s w a ws := by
  obtain ⟨p, hp, he1⟩ := rdv_ev h he0
  obtain ⟨v, hv, he⟩ := rdv_ev h he1
  clear he0 he1
  unfold pgStore tinf at he
  cases hi : TI t with
  | none => rw [hi] at he; exact he.elim
  | some i =>
    rw [hi] at he
    obtain ⟨ti, d, z, T⟩ := hT.get hi
    cases hq : v.isVal && decide (v.cells.length = i.size) with
    | false => simp only [hq] at he; exact he.elim
    | true =>
      simp only [hq] at he
      simp only [Bool.and_eq_true, decide_eq_true_eq] at hq
      have hvl := VR_val hv hq.1
      obtain ⟨hc, h1⟩ := LR_cells hvl hq.1
      have hn : (a.eval y).cells.size = i.size := by have := hc.len; simp at this; omega
      cases p with
      | ptr b off =>
        simp only [] at he
        obtain ⟨_, he⟩ := he
        cases hb : s.boxes b with
        | none => rw [hb] at he; exact he.elim
        | some cs =>
          rw [hb] at he
          simp only [] at he
          cases hl : (decide (off + i.size ≤ cs.length) && !(((cs.drop off).take i.size).any isFz)) with
          | false => rw [hl] at he; exact he.elim
          | true =>
            rw [hl] at he
            simp only [Bool.and_eq_true, Bool.not_eq_true'] at hl
            obtain ⟨hl, hnf⟩ := hl
            have : ws = _ := he
            subst this
            obtain ⟨k, hβ, ok⟩ := h.bx b cs hb
            obtain ⟨us, e, fr, r1, r2, r3⟩ := ok.row
            obtain ⟨k', hβ', hu⟩ := hp
            rw [hβ] at hβ'; cases hβ'
            have hsz : cs.length = us.size := by simpa using r3.len
            have hfit : off + i.size ≤ us.size := by rw [← hsz]; simpa using hl
            have hrun := run_storeVar T r1 r2 hn hfit h1
            have hr' := setRow_heap w k us (over us.toList off (a.eval y).cells.toList).toArray e fr r1
            have hsize : (over us.toList off (a.eval y).cells.toList).toArray.size = us.size := by
              rw [List.size_toArray, over_len (by simp; omega)]; simp
            obtain ⟨h2, _⟩ := h.setBox hb hβ (only_setRow k _) hr' (by rw [hsize]; exact r2) (cs' := splice cs off v.cells) (over_All2 r3 hc) (fun o p => by
              obtain ⟨vz, hz⟩ := ok.free o p
              have hout := nofz hnf hz
              rw [cell_of hr', cell_of r1, List.getElem?_toArray, over_get (by simp; omega)]
              rcases hout with h1 | h1
              · rw [if_pos h1]; simp
              · rw [if_neg (by omega), if_neg (by simp; omega)]; simp) (fun o p => by
              obtain ⟨vz, hz⟩ := ok.free o p
              have hvl2 : v.cells.length = i.size := hq.2
              have hl' : off + i.size ≤ cs.length := by simpa using hl
              exact ⟨vz, by rw [splice_out (by omega) (by rw [hvl2]; exact nofz hnf hz), hz]⟩)
            exact goes_skip (execOp_store ho hu hrun) (by rw [hd]; exact h2) (below_setRow ok.above _)
      | pel t' j off =>
        simp only [] at he
        obtain ⟨vs, ws', g1, he, hpm, h2, hk, hvs⟩ := snaps_ev (Promo.refl s) (by simpa [S.puts] using h) (hc.imp fun _ _ => VR_of_LR) he
        obtain ⟨_, he⟩ := he
        cases ht : s.toks t' with
        | abs => rw [ht] at he; exact he.elim
        | dead => rw [ht] at he; exact he.elim
        | mlive _ _ => rw [ht] at he; exact he.elim
        | live sh T' l =>
          cases sh with
          | true => rw [ht] at he; exact he.elim
          | false =>
            rw [ht] at he
            obtain ⟨hj, htch, hpl, he⟩ := he
            have hj : j < l.length := by simpa using hj
            have htch : touches t' ws' = false := by simpa using htch
            cases hq1 : decide (off + i.size ≤ T'.size) with
            | false => rw [hq1] at he; exact he.elim
            | true =>
              cases hq2 : T'.ofCells (splice (T'.cells (l.getD j T'.dflt)) off vs) with
              | none => rw [hq1, hq2] at he; exact he.elim
              | some x =>
                rw [hq1, hq2] at he
                have : ws = _ := he
                subst this
                have hoff : off + i.size ≤ T'.size := by simpa using hq1
                have hlive : (s.puts ws').toks t' = .live false T' l := by rw [touches_toks htch, ht]
                obtain ⟨tg, hτ, ez, r⟩ := h2.tk t' false T' l hlive
                have hp2 := VR.keeps hk hp
                obtain ⟨tg', k, hτ', hblk, hu⟩ := hp2
                rw [hτ] at hτ'; cases hτ'
                rcases r with ⟨_, e, _⟩ | ⟨k', cap, hval, e, r⟩
                · rw [hblk] at e; cases e
                · rw [hblk] at e; cases e
                  obtain ⟨us, el, fr, r1, r2, r3, r4⟩ := r.row
                  rw [ez] at hu
                  have hxl : (a.eval y).cells.toList.length = i.size := by simpa using hn
                  have hfit : l.length * T'.size ≤ us.size := Nat.le_trans (Nat.mul_le_mul_right _ r.len) r3
                  have hjs : (j + 1) * T'.size ≤ l.length * T'.size := Nat.mul_le_mul_right _ hj
                  have hjs2 : (j + 1) * T'.size = j * T'.size + T'.size := by rw [Nat.add_mul]; omega
                  have hrun := run_storeVar (w := w) (off := j * T'.size + off) T r1 r2.1 hn (by omega) h1
                  have hr' := setRow_heap w k us (over us.toList (j * T'.size + off) (a.eval y).cells.toList).toArray el fr r1
                  have hsize : (over us.toList (j * T'.size + off) (a.eval y).cells.toList).toArray.size = us.size := by
                    rw [List.size_toArray, over_len (by simp; omega)]; simp
                  have hrow := rowOf_set (x := x) (off := off) (xs := (a.eval y).cells.toList) r4 hj (by omega) hfit (by
                    intro vs0 n0 _ t0
                    refine ofCells_TR hq2 ?_
                    rw [show l.getD j T'.dflt = l[j] from by simp [List.getD, hj]]
                    exact over_All2 (cells_PR t0) (PV_plain hvs hpl))
                  obtain ⟨h3, _⟩ := h2.setTok hlive hτ hval hblk (by simp) (only_setRow k _) hr' (by rw [hsize]; exact r2) (by rw [hsize]; exact r3) hrow
                  refine goes_skip (g' := g1) (execOp_store ho hu hrun) ?_ (below_setRow r.above _)
                  rw [hd, S.puts_one]
                  exact h3
      | parr b off n e j =>
        simp only [] at he
        obtain ⟨v', ws', g1, he, hpm, h2, hk, hpv⟩ := snap1_ev (Promo.refl s) (by simpa [S.puts] using h) hv he
        cases hsl : isSlK i.kn with
        | false => rw [hsl] at he; exact he.elim
        | true =>
          cases hos : oSl e [v'] with
          | none => rw [hsl, hos] at he; exact he.elim
          | some xl =>
            rw [hsl, hos] at he
            simp only [] at he
            obtain ⟨_, he⟩ := he
            cases hb : s.boxes b with
            | none => rw [hb] at he; exact he.elim
            | some cs =>
              rw [hb] at he
              simp only [] at he
              cases hoa : oArr e n ((cs.drop off).take n) with
              | none => rw [hoa] at he; exact he.elim
              | some l =>
                rw [hoa] at he
                have : ws = _ := he
                subst this
                have hbx : (s.puts ws').boxes b = some cs := by rw [hpm.boxes]; exact hb
                obtain ⟨k, hβ, ok⟩ := h2.bx b cs hbx
                obtain ⟨us, el, fr, r1, r2, r3⟩ := ok.row
                obtain ⟨hj, k', hβ', hu⟩ := VR.keeps hk hp
                rw [hβ] at hβ'; cases hβ'
                have hpr : PR w g1.pr v' (a.eval y) := by
                  rcases hpv with q | ⟨_, _, q, _⟩
                  · exact q
                  · rcases oSl_eq hos with ⟨h1, _⟩ | h1 <;> · rw [q] at h1; cases h1
                have hpx : PR w g1.pr (.sl e xl) (a.eval y) := oSl_TR hos hpr
                have hcu := hpr.cells.2
                have hlen := (oArr_len hoa).2
                have hfit : off + n ≤ cs.length := by simp at hlen; omega
                have hsz : cs.length = us.size := by simpa using r3.len
                have hi1 : i.size = 1 := by rw [← hn, hcu]; rfl
                have hrun := run_storeVar (w := w) (off := off + j) T r1 r2 hn (by omega) (by rw [hcu]; intro x hx; simp at hx; subst hx; exact hpx.one)
                have hr' := setRow_heap w k us (over us.toList (off + j) (a.eval y).cells.toList).toArray el fr r1
                have hsize : (over us.toList (off + j) (a.eval y).cells.toList).toArray.size = us.size := by
                  rw [List.size_toArray, over_len (by rw [hcu]; simp; omega)]; simp
                have hout : ∀ o, g1.pr k o → (o < off ∨ off + n ≤ o) ∧ ∃ v, cs[o]? = some (.fz v) := fun o p => by
                  obtain ⟨vz, hz⟩ := ok.free o p
                  refine ⟨?_, vz, hz⟩
                  by_cases h1 : o < off
                  · exact .inl h1
                  · by_cases h3 : off + n ≤ o
                    · exact .inr h3
                    · exact absurd (by rw [show off + (o - off) = o by omega]; exact hz) ((arr_at0 r3 hoa (show o - off < n by omega)).2 vz)
                have hcell : ((Ty.arr n e).cells (l.set j xl)).length = n := by simp [Ty.cells]
                obtain ⟨h3, _⟩ := h2.setBox (w' := w.setRow k (over us.toList (off + j) (a.eval y).cells.toList).toArray) hbx hβ (only_setRow k _) hr' (by rw [hsize]; exact r2) (cs' := splice cs off ((Ty.arr n e).cells (l.set j xl))) (by
                  have := arr_set r3 hoa hj hpx
                  rw [hcu]; simpa using this) (fun o p => by
                  obtain ⟨q, _⟩ := hout o p
                  rw [cell_of hr', cell_of r1, List.getElem?_toArray, over_get (by rw [hcu]; simp; omega)]
                  rcases q with q | q
                  · rw [if_pos (by omega)]; simp
                  · rw [if_neg (by omega), if_neg (by rw [hcu]; simp; omega)]; simp) (fun o p => by
                  obtain ⟨q, vz, hz⟩ := hout o p
                  exact ⟨vz, by rw [splice_out (by omega) (by omega), hz]⟩)
                refine goes_skip (g' := g1) (execOp_store ho hu hrun) ?_ (below_setRow ok.above _)
                rw [hd, S.puts_one]
                exact h3
      | _ => exact he.elim
theorem run_fieldAt (hT : TIok P TI) {t : TypeId} {i : TInfo} {ti : TypeInfo} {d : TypeDesc} {z : Value} (T : TypeIs P t i ti d z) (hs : i.kn.isRec = true) {f off : Nat} {ft : TypeId} {fi : TInfo} (hf : i.fields[f]? = some (off, ft))
    (hfi : TI ft = some fi) (h0 : 0 < fi.size) (ad : Addr) : (Instr.fieldAt t (.pointer (some ad)) f).run P w = .ok (.pointer (some (ad.add off))) w := by
  obtain ⟨fs, hu, hfs⟩ := T.struct hs
  obtain ⟨_, _, _, F⟩ := hT.get hfi
  rw [hfs, List.getElem?_map] at hf
  cases hq : fs.toList[f]? with
  | none => rw [hq] at hf; cases hf
  | some fd =>
    rw [hq] at hf
    simp only [Option.map_some, Option.some.injEq, Prod.mk.injEq] at hf
    have hq2 : fs[f]? = some fd := by simpa using hq
    obtain ⟨rfl, rfl⟩ := hf
    have hz : ¬ fi.size = 0 := by omega
    simp [Instr.fieldAt, run_underlying hu, hq2, Instr.sureAddr, fieldPlace, F.sizeOf, hz]
theorem goes_fieldAddr (hT : TIok P TI) (h : Rel B g s w a N) (hd : ∀ t, o.dst = some t → t < N) {t : TypeId} {x : Operand} {f : Nat} (ho : o.op = .fieldAddr t x f)
    (he0 : (rdv x fun p => pgFieldAddr TI o.dst t p f).Ev C Rd s ws) : Goes P B N o s w a ws := by
  obtain ⟨p, hp, he⟩ := rdv_ev h he0
  clear he0
  unfold pgFieldAddr tinf at he
  cases hi : TI t with
  | none => rw [hi] at he; exact he.elim
  | some i =>
    rw [hi] at he
    obtain ⟨ti, d, z, T⟩ := hT.get hi
    cases hs : i.kn.isRec with
    | false => simp only [hs] at he; exact he.elim
    | true =>
      cases hf : i.fields[f]? with
      | none => simp only [hs, hf] at he; exact he.elim
      | some of =>
        obtain ⟨off, ft⟩ := of
        simp only [hs, hf] at he
        cases hfi : TI ft with
        | none => rw [hfi] at he; exact he.elim
        | some fi =>
          rw [hfi] at he
          simp only [] at he
          cases h0 : decide (0 < fi.size) with
          | false => rw [h0] at he; exact he.elim
          | true =>
            rw [h0] at he
            have hpos : 0 < fi.size := by simpa using h0
            have hrun : ∀ ad : Addr, a.eval x = .pointer (some ad) → (execOp a.eval o).run P w = .ok (.value (.pointer (some (ad.add off)))) w := by
              intro ad had
              simp [execOp, ho, had, run_fieldAt hT T hs hf hfi hpos ad]
            cases p with
            | ptr b o' =>
              obtain ⟨k, hβ, hu⟩ := hp
              refine goes_pure h hd (show VR w g (.ptr b (o' + off)) _ from ⟨k, hβ, rfl⟩) ?_ he
              rw [hrun _ hu, addr_add]
            | pim cs o' =>
              obtain ⟨ad, us, hu, h1, h2⟩ := hp
              refine goes_pure h hd (show VR w g (.pim cs (o' + off)) _ from ⟨ad, us, rfl, h1, h2⟩) ?_ he
              rw [hrun _ hu, add_add]
            | imm T0 x0 =>
              obtain ⟨ad, us, hu, h2, h1⟩ := (show TR w g.pr (.ref T0) x0 [_] from hp)
              have hu : a.eval x = .pointer (some ad) := by simpa using hu
              exact goes_pure h hd (show VR w g (.pim (T0.cells x0) off) _ from ⟨ad, us, rfl, cells_PR h1, h2⟩) (hrun _ hu) he
            | pel t' j o' =>
              obtain ⟨tg, k, h1, h2, hu⟩ := hp
              refine goes_pure h hd (show VR w g (.pel t' j (o' + off)) _ from ⟨tg, k, h1, h2, rfl⟩) ?_ he
              rw [hrun _ hu, addr_add, Nat.add_assoc]
            | _ => exact he.elim
theorem run_part {t : TypeId} {i : TInfo} {ti : TypeInfo} {d : TypeDesc} {z : Value} (T : TypeIs P t i ti d z) {us : List Value} {off : Nat} :
    (i.kn.isSt = true → (part t us.toArray off).run P w = .ok (.agg (us.drop off |>.take i.size).toArray) w) ∧
    (i.kn.isSt = false → ∀ u, us[off]? = some u → (part t us.toArray off).run P w = .ok u w) := by
  constructor
  · intro hs
    simp only [part, Sem.run_bind, T.isAgg, hs, Result.andThen_ok, if_true, T.sizeOf, Sem.run_pure]
    congr 2
    apply Array.ext'
    simp [List.take_drop]
  · intro hs u hu
    simp [part, T.isAgg, hs, hu]
theorem goes_field (hT : TIok P TI) (h : Rel B g s w a N) (hd : ∀ t, o.dst = some t → t < N) {t : TypeId} {x : Operand} {f : Nat} (ho : o.op = .field t x f)
    (he0 : (rdv x fun x => pgField TI o.dst t x f).Ev C Rd s ws) : Goes P B N o s w a ws := by
  obtain ⟨p, hp, he⟩ := rdv_ev h he0
  clear he0
  unfold pgField tinf at he
  cases hi : TI t with
  | none => rw [hi] at he; exact he.elim
  | some i =>
    rw [hi] at he
    obtain ⟨ti, d, z, T⟩ := hT.get hi
    cases hs : i.kn.isRec with
    | false => simp only [hs] at he; exact he.elim
    | true =>
      cases hf : i.fields[f]? with
      | none => simp only [hs, hf] at he; exact he.elim
      | some of =>
        obtain ⟨off, ft⟩ := of
        simp only [hs, hf] at he
        cases hfi : TI ft with
        | none => rw [hfi] at he; exact he.elim
        | some fi =>
          rw [hfi] at he
          simp only [] at he
          obtain ⟨_, _, _, F⟩ := hT.get hfi
          cases p with
          | agg cs =>
            obtain ⟨us, hu, hc⟩ := hp
            obtain ⟨fs, hun, hfs⟩ := T.struct hs
            rw [hfs, List.getElem?_map] at hf
            cases hq : fs.toList[f]? with
            | none => rw [hq] at hf; cases hf
            | some fd =>
              rw [hq] at hf
              simp only [Option.map_some, Option.some.injEq, Prod.mk.injEq] at hf
              have hq2 : fs[f]? = some fd := by simpa using hq
              obtain ⟨rfl, rfl⟩ := hf
              have hrun : ∀ v, (part fd.type us.toArray fd.offset).run P w = .ok v w → (execOp a.eval o).run P w = .ok (.value v) w := by
                intro v hv
                simp [execOp, ho, hu, Instr.field, run_underlying hun, hq2, asAgg, hv]
              unfold cut at he
              cases hs2 : fi.kn.isSt with
              | true =>
                rw [hs2] at he
                simp only [] at he
                cases hl : decide (fd.offset + fi.size ≤ cs.length) with
                | false => rw [hl] at he; exact he.elim
                | true =>
                  rw [hl] at he
                  simp only [cond_true] at he
                  have hc2 : All2 (LR w g) ((cs.drop fd.offset).take fi.size) ((us.drop fd.offset).take fi.size) := ((hc.imp fun _ _ => LR_of_PR).drop _).take _
                  obtain ⟨vs', ws', g', he2, hpr, h2, hk, hv⟩ := snaps_ev (Promo.refl s) (by simpa [S.puts] using h) ((unfz_all hc2).imp fun _ _ => VR_of_LR) he
                  cases hpl : vs'.all isPlainCell with
                  | false => rw [hpl] at he2; exact he2.elim
                  | true =>
                    rw [hpl] at he2
                    have : ws = ws' ++ wrd o.dst (.agg vs') := he2
                    subst this
                    refine goes_value (g' := g') (hrun _ ((run_part F).1 hs2)) ?_ (BelowB.refl _ _)
                    rw [S.puts_append]
                    exact h2.wrd (VR_of_LR (show LR w g' (.agg vs') _ from ⟨_, rfl, PV_plain hv hpl⟩)) hd
              | false =>
                rw [hs2] at he
                simp only [] at he
                cases hq3 : cs[fd.offset]? with
                | none => rw [hq3] at he; exact he.elim
                | some v =>
                  rw [hq3] at he
                  obtain ⟨u, hu2, hr⟩ := hc.get _ _ hq3
                  exact goes_pure h hd (VR_of_LR (LR_unfz (LR_of_PR hr))) (hrun _ ((run_part F).2 hs2 u hu2)) he
          | _ => exact he.elim
theorem goes_index (h : Rel B g s w a N) (hd : ∀ t, o.dst = some t → t < N) {t : TypeId} {x y : Operand} (ho : o.op = .index t x y) (ht : P.underlying t = some .string) {l : List UInt8} {k : IntKind} {n : Int}
    (hx : a.eval x = strV l) (hy : a.eval y = .int k n) (h0 : 0 ≤ n) (hn : n < l.length) (he : (retv o.dst (.int .u8 ((l.getD n.toNat 0).toNat : Int))).Ev C Rd s ws) : Goes P B N o s w a ws := by
  refine goes_int h hd ?_ he
  have hlt : n.toNat < l.length := by omega
  have e1 : (⟨l.toArray⟩ : ByteArray)[n.toNat]? = some (l.getD n.toNat 0) := by
    have hsz : n.toNat < (⟨l.toArray⟩ : ByteArray).size := by simpa [ByteArray.size] using hlt
    rw [getElem?_pos (⟨l.toArray⟩ : ByteArray) n.toNat hsz]
    simp [List.getD, hlt, ByteArray.getElem_eq_getElem_data]
  simp only [execOp, ho, hx, hy, Instr.index, strV, asIntOf, Sem.run_bind, Sem.run_pure, Result.andThen_ok, run_underlying ht, h0, if_true, e1]
theorem goes_extract (h : Rel B g s w a N) (hd : ∀ t, o.dst = some t → t < N) {x : Operand} {i : Nat} (ho : o.op = .extract x i)
    (he0 : (rdv x fun v => pgExtract o.dst v i).Ev C Rd s ws) : Goes P B N o s w a ws := by
  obtain ⟨p, hp, he⟩ := rdv_ev h he0
  clear he0
  unfold pgExtract at he
  cases p with
  | tup vs =>
    obtain ⟨us, hu, hc⟩ := hp
    simp only [] at he
    cases hq : vs[i]? with
    | none => rw [hq] at he; exact he.elim
    | some v =>
      rw [hq] at he
      obtain ⟨u, hu2, hr⟩ := hc.get _ _ hq
      refine goes_pure h hd (VR_of_LR hr) ?_ he
      simp [execOp, ho, hu, Instr.extract, hu2]
  | _ => exact he.elim
theorem goes_indexAddr (hT : TIok P TI) (h : Rel B g s w a N) (hd : ∀ t, o.dst = some t → t < N) {t : TypeId} {x y : Operand} (ho : o.op = .indexAddr t x y)
    (he0 : (rdv x fun x => rdv y fun i => pgIndexAddr TI o.dst t x i).Ev C Rd s ws) : Goes P B N o s w a ws := by
  obtain ⟨p, hp, he1⟩ := rdv_ev h he0
  obtain ⟨q, hq, he⟩ := rdv_ev h he1
  clear he0 he1
  unfold pgIndexAddr at he
  cases q with
  | int k n =>
    simp only [] at he
    have hn := VR_int hq
    unfold tinf at he
    cases hi : TI t with
    | none => rw [hi] at he; exact he.elim
    | some i =>
      rw [hi] at he
      obtain ⟨ti, d, z, T⟩ := hT.get hi
      cases hkn : i.kn with
      | slice e =>
        simp only [hkn] at he
        cases hei : TI e with
        | none => rw [hei] at he; exact he.elim
        | some ei =>
          rw [hei] at he
          simp only [] at he
          obtain ⟨_, _, _, E⟩ := hT.get hei
          have hun := T.slice hkn
          have hrun : ∀ (ad : Addr) (len cap : Nat), a.eval x = .slice (some ad) len cap → 0 ≤ n → n < len → (execOp a.eval o).run P w = .ok (.value (.pointer (some (ad.add (n.toNat * ei.size))))) w := by
            intro ad len cap hx h0 hlt
            simp only [execOp, ho, hx, hn, Instr.indexAt, asIntOf, Sem.run_bind, Sem.run_pure, Result.andThen_ok, run_underlying hun, h0, hlt, and_self, if_true, E.sizeOf]
          cases p with
          | sl T' l =>
            simp only [] at he
            cases hd2 : T'.dec ei.ty with
            | none => rw [hd2] at he; exact he.elim
            | some hh =>
              rw [hd2] at he
              obtain ⟨h0, hlt, he⟩ := he
              have h0 : 0 ≤ n := by simpa using h0
              have hlt : n < l.length := by simpa using hlt
              have hnat : n.toNat < l.length := by omega
              have hsz : T'.size = ei.size := by rw [hh.down]; exact E.tysz
              obtain ⟨ad, c, hu, hc, hr⟩ := (show SlR _ _ _ _ _ _ from hp)
              have hu : a.eval x = .slice ad l.length c := by simpa using hu
              obtain ⟨a0, vs, rfl, v1, v2, v3⟩ := hr n.toNat l[n.toNat] (by simp [hnat])
              have hget : l.getD n.toNat T'.dflt = l[n.toNat] := by simp [List.getD, hnat]
              rw [hget] at he
              refine goes_pure h hd (show VR w g (.pim (T'.cells l[n.toNat]) 0) (.pointer (some ((a0.add (n.toNat * T'.size)).add 0))) from ⟨_, vs, rfl, cells_PR v3, fun i u hu => by rw [add_add]; exact v2 i u hu⟩) ?_ he
              rw [hrun a0 _ c hu h0 hlt, hsz]; simp [Addr.add]
          | ref t' =>
            simp only [] at he
            obtain ⟨_, he⟩ := he
            cases ht : s.toks t' with
            | abs => rw [ht] at he; exact he.elim
            | dead => rw [ht] at he; exact he.elim
            | mlive _ _ => rw [ht] at he; exact he.elim
            | live sh T' l =>
              rw [ht] at he
              simp only [] at he
              cases hd2 : T'.dec ei.ty with
              | none => rw [hd2] at he; exact he.elim
              | some hh =>
                rw [hd2] at he
                obtain ⟨h0, hlt, he⟩ := he
                have h0 : 0 ≤ n := by simpa using h0
                have hlt : n < l.length := by simpa using hlt
                have hsz : T'.size = ei.size := by rw [hh.down]; exact E.tysz
                obtain ⟨tg, hτ, ez, r⟩ := h.tk t' sh T' l ht
                obtain ⟨tg', hτ', hu, _⟩ := hp
                rw [hτ] at hτ'; cases hτ'
                rcases r with ⟨_, _, e⟩ | ⟨k', cap, hval, hblk, r⟩
                · subst e; simp at hlt; omega
                · rw [hval] at hu
                  refine goes_pure h hd (show VR w g (.pel t' n.toNat 0) (.pointer (some ⟨k', n.toNat * tg.esz + 0, none⟩)) from ⟨tg, k', hτ, hblk, rfl⟩) ?_ he
                  rw [hrun _ _ cap hu h0 hlt, addr_add, ez, hsz]; simp
          | _ => exact he.elim
      | arr m et =>
        simp only [hkn] at he
        cases hei : TI et with
        | none => rw [hei] at he; exact he.elim
        | some ei =>
          rw [hei] at he
          simp only [] at he
          obtain ⟨_, _, _, E⟩ := hT.get hei
          have hun := T.arrd hkn
          cases hty : ei.ty with
          | slice e =>
            simp only [hty] at he
            have hsz : ei.size = 1 := by rw [← E.tysz, hty]; rfl
            have hrun : ∀ (ad : Addr), a.eval x = .pointer (some ad) → 0 ≤ n → n < m → (execOp a.eval o).run P w = .ok (.value (.pointer (some (ad.add n.toNat)))) w := by
              intro ad hx h0 hlt
              simp only [execOp, ho, hx, hn, Instr.indexAt, asIntOf, Sem.run_bind, Sem.run_pure, Result.andThen_ok, run_underlying hun, Instr.sureAddr, h0, hlt, and_self, if_true, E.sizeOf, hsz, Nat.mul_one]
            cases p with
            | ptr b off =>
              obtain ⟨h0, hlt, he⟩ := he
              have h0 : 0 ≤ n := by simpa using h0
              have hlt : n < m := by simpa using hlt
              obtain ⟨k, hβ, hu⟩ := hp
              refine goes_pure h hd (show VR w g (.parr b off m e n.toNat) (.pointer (some ⟨k, off + n.toNat, none⟩)) from ⟨by omega, k, hβ, rfl⟩) ?_ he
              rw [hrun _ hu h0 hlt, addr_add]
            | pim cs off =>
              obtain ⟨h0, hlt, he⟩ := he
              have h0 : 0 ≤ n := by simpa using h0
              have hlt : n < m := by simpa using hlt
              obtain ⟨ad, us, hu, hc, hcell⟩ := hp
              cases hoa : oArr e m ((cs.drop off).take m) with
              | none => rw [hoa] at he; exact he.elim
              | some l =>
                rw [hoa] at he
                simp only [] at he
                have hl := (oArr_len hoa).1
                have htr := oArr_TR hoa ((hc.drop off).take m)
                obtain ⟨u, hu2, hr⟩ := htr.get n.toNat l[n.toNat] (List.getElem?_eq_getElem (by omega))
                rw [List.getElem?_take_of_lt (by omega), List.getElem?_drop] at hu2
                have hg : l.getD n.toNat [] = l[n.toNat] := by simp [List.getD, show n.toNat < l.length by omega]
                simp only [hg] at he
                refine goes_pure h hd (show VR w g (.pim [.sl e l[n.toNat]] 0) (.pointer (some (((ad.add off).add n.toNat).add 0))) from ⟨_, [u], rfl, ⟨hr, trivial⟩, fun i v hv => ?_⟩) ?_ he
                · have hi : i = 0 := by have := (List.getElem?_eq_some_iff.1 hv).1; simpa using this
                  subst hi
                  cases hv
                  rw [add_add, Nat.add_zero, add_add]
                  exact hcell _ _ hu2
                · rw [hrun _ hu h0 hlt]; simp [Addr.add]
            | _ => exact he.elim
          | _ => simp only [hty] at he; exact he.elim
      | _ => simp only [hkn] at he; exact he.elim
  | _ => exact he.elim
end
end Go.Proofs.Ytjonpmckkmnemaa.Th
set_option linter.unusedVariables false
set_option linter.unusedSimpArgs false
namespace Go.Proofs.Ytjonpmckkmnemaa.Th
open Go Go.RowKit
section
variable {P : Program} {TI : TEnv} {C : FuncId → List AV → AV → Prop} {Rd : Rs → Prop} {μ : Bool} {B : Bd μ} {N : Nat} {g g' : Gh} {s : S} {w w' : World} {a : Act} {o : Oper} {ws : List Wr}
theorem Rel.newTokAt (h : Rel B g s w a N) {t : Nat} (ht : s.toks t = .abs) {T : Ty} {l : List T.den} {us : Array Value} (e : TypeId) {fr : Nat × Nat} {cap : Nat} (hfr : ThawedT false T fr us.size) (hl : l.length ≤ cap) (hc : cap * T.size ≤ us.size)
    (hr : RowOf w g.pr T l us) : ∃ g' tg, Rel B g' (s.put (.tok t (.live false T l))) (w.alloc (.cells us e fr)) a N ∧ g'.τ t = some tg ∧ tg.val = .slice (some ⟨w.heap.size, 0, none⟩) l.length cap := by
  obtain ⟨h1, k1⟩ := h.alloc (.cells us e fr)
  have hf : Fresh g s w.heap.size := h.fresh (Nat.le_refl _)
  have hno : ∀ o, ¬ g.pr w.heap.size o := fun o p => by have := h.prlt _ o p; omega
  obtain ⟨h2, _⟩ := h1.newTok (sh := false) (T := T) (l := l) (tg := ⟨.slice (some ⟨w.heap.size, 0, none⟩) l.length cap, some w.heap.size, T.size⟩) ht (fun k hk => by cases hk; exact hf)
    ⟨rfl, .inr ⟨w.heap.size, cap, rfl, rfl, .inl h.hB, hl, ⟨us, e, fr, alloc_new w _, hfr, hc, hr.keeps k1.pr⟩, fun o p => absurd p (hno o), (fun x => by cases x), fun _ => hno⟩⟩
  exact ⟨_, _, h2, by simp [upd_same]; rfl, rfl⟩
theorem VR_ref {t : Nat} {tg : TG} (h : g.τ t = some tg) {ad : Option Addr} {n c : Nat} (hv : tg.val = .slice ad n c) : VR w g (.ref t) (.slice ad n c) :=
  ⟨tg, h, hv.symm, rfl⟩
theorem fold_set (vs : List Value) : ∀ (i off : Nat) (cs : Array Value), off + i + vs.length ≤ cs.size →
    (vs.zipIdx i).foldl (fun cs (x : Value × Nat) => cs.setIfInBounds (off + x.2) x.1) cs = (over cs.toList (off + i) vs).toArray := by
  induction vs with
  | nil => intro i off cs h; simp [over]
  | cons v vs ih =>
    intro i off cs h
    simp only [List.length_cons] at h
    simp only [List.zipIdx_cons, List.foldl_cons]
    rw [ih (i + 1) off _ (by simp; omega)]
    congr 1
    apply List.ext_getElem?
    intro j
    rw [over_get (by simp; omega), over_get (by simp; omega)]
    simp only [Array.toList_setIfInBounds, List.length_cons, List.getElem?_set, Array.length_toList]
    by_cases a : j < off + i
    · rw [if_pos (by omega), if_pos a, if_neg (by omega)]
    · by_cases b : j = off + i
      · subst b
        rw [if_pos (by omega), if_pos rfl, if_pos (by omega), if_neg (by omega), if_pos (by omega)]
        simp
      · rw [if_neg a]
        by_cases c : j < off + i + (vs.length + 1)
        · rw [if_neg (by omega), if_pos (by omega), if_pos c]
          obtain ⟨m, rfl⟩ : ∃ m, j = off + (i + 1) + m := ⟨j - (off + (i + 1)), by omega⟩
          rw [show off + (i + 1) + m - (off + (i + 1)) = m from by omega, show off + (i + 1) + m - (off + i) = m + 1 from by omega, List.getElem?_cons_succ]
        · rw [if_neg (by omega), if_neg (by omega), if_neg c, if_neg (by omega)]
theorem fill_step {place : Nat → Option (Nat × Nat)} {cells : Array Value} {i off size : Nat} {v : Value} {rest : List (Nat × Value)} (hp : place i = some (off, size)) (hs : v.cells.size = size) (hfit : off + size ≤ cells.size) :
    Instr.fill place cells ((i, v) :: rest) = Instr.fill place (over cells.toList off v.cells.toList).toArray rest := by
  rw [Instr.fill]
  have h1 : ¬ (v.cells.size ≠ size ∨ off + v.cells.size > cells.size) := by omega
  simp only [hp]
  have h2 : ¬ ((decide (v.cells.size ≠ size) || decide (off + v.cells.size > cells.size)) = true) := by simp; omega
  rw [if_neg h2]
  congr 1
  have := fold_set v.cells.toList 0 off cells (by simp; omega)
  simp only [Nat.add_zero] at this
  rw [← this, ← Array.foldl_toList, Array.toList_zipIdx]
theorem rowOf_zero {pr : Nat → Nat → Prop} {T : Ty} {zs : List Value} (hz : TR w pr T T.dflt zs) (n : Nat) : RowOf w pr T (List.replicate n T.dflt) ((Array.range (n * T.size)).map (zs.toArray[· % zs.toArray.size]!)) := by
  have hl := hz.len
  intro j x hx
  have hj : j < n := by have := (List.getElem?_eq_some_iff.1 hx).1; simpa using this
  rw [List.getElem?_replicate, if_pos hj] at hx
  cases hx
  refine ⟨zs, hl, fun i v hv => ?_, hz⟩
  have hi : i < T.size := by rw [← hl]; exact (List.getElem?_eq_some_iff.1 hv).1
  have hlt : j * T.size + i < n * T.size := by
    have : (j + 1) * T.size ≤ n * T.size := Nat.mul_le_mul_right _ hj
    have : (j + 1) * T.size = j * T.size + T.size := by rw [Nat.add_mul]; omega
    omega
  have hmod : (j * T.size + i) % T.size = i := by rw [Nat.mul_comm, Nat.mul_add_mod]; exact Nat.mod_eq_of_lt hi
  rw [Array.getElem?_map, Array.getElem?_range, if_pos hlt]
  simp only [Option.map_some, Option.some.injEq, List.size_toArray, hl, hmod]
  have : i < zs.length := by omega
  rw [List.getElem!_toArray, List.getElem!_eq_getElem?_getD, hv]; rfl
theorem litv_row {pr : Nat → Nat → Prop} {T : Ty} {place : Nat → Option (Nat × Nat)} (hpl : ∀ i, place i = some (i * T.size, T.size)) :
    ∀ {js : List Nat} {vs : List AV} {xs : List Value} {l l' : List T.den} {us : Array Value}, js.length = vs.length → All2 (PV w pr) vs xs → litv T l (js.zip vs) = some l' → RowOf w pr T l us → l.length * T.size ≤ us.size →
      ∃ us', Instr.fill place us (js.zip xs) = some us' ∧ us'.size = us.size ∧ l'.length = l.length ∧ RowOf w pr T l' us' := by
  intro js
  induction js with
  | nil =>
    intro vs xs l l' us hn hv hl hr hs
    simp only [List.zip_nil_left, litv, Option.some.injEq] at hl
    subst hl
    exact ⟨us, by simp [Instr.fill], rfl, rfl, hr⟩
  | cons j js ih =>
    intro vs xs l l' us hn hv hl hr hs
    cases vs with
    | nil => simp at hn
    | cons v vs =>
      cases xs with
      | nil => exact hv.elim
      | cons x xs =>
        simp only [List.zip_cons_cons, litv] at hl ⊢
        cases hq : decide (j < l.length) with
        | false => rw [hq] at hl; cases hl
        | true =>
          cases ho : T.ofCells v.cells with
          | none => rw [hq, ho] at hl; cases hl
          | some y =>
            rw [hq, ho] at hl
            have hj : j < l.length := by simpa using hq
            have htr := ofCells_TR ho hv.1.cells
            have hxs : x.cells.size = T.size := by have := htr.len; simpa using this
            have hjs : (j + 1) * T.size ≤ l.length * T.size := Nat.mul_le_mul_right _ hj
            have hjs2 : (j + 1) * T.size = j * T.size + T.size := by rw [Nat.add_mul]; omega
            rw [fill_step (hpl j) hxs (by omega)]
            have hrow := rowOf_set (x := y) (off := 0) (xs := x.cells.toList) hr hj (by simp [hxs]) hs (by
              intro vs0 n0 _ _
              have e : over vs0 0 x.cells.toList = x.cells.toList := by
                simp only [over, List.take_zero, List.nil_append, Nat.zero_add, Array.length_toList]
                rw [List.drop_of_length_le (by omega), List.append_nil]
              rw [e]; exact htr)
            have hsz : (over us.toList (j * T.size + 0) x.cells.toList).toArray.size = us.size := by
              rw [List.size_toArray, over_len (by simp; omega)]; simp
            obtain ⟨us', a1, a2, a3, a4⟩ := ih (by simpa using hn) hv.2 hl hrow (by rw [hsz]; simpa using hs)
            exact ⟨us', by simpa using a1, by rw [a2, hsz], by simpa using a3, a4⟩
theorem zip_unzip {α β γ : Type} (ps : List (α × β)) (f : β → γ) : ps.map (fun p => (p.1, f p.2)) = (ps.map (·.1)).zip ((ps.map (·.2)).map f) := by
  induction ps with
  | nil => rfl
  | cons p ps ih => simp [ih]
theorem All2_zip {R : AV → Value → Prop} : ∀ {js : List Nat} {vs : List AV} {xs : List Value}, js.length = vs.length → All2 R vs xs → ((js.zip vs).map (·.2)) = vs ∧ ((js.zip vs).map (·.1)) = js
  | [], [], _, _, _ => ⟨rfl, rfl⟩
  | j :: js, v :: vs, x :: xs, h, hv => by
    obtain ⟨a, b⟩ := All2_zip (js := js) (by simpa using h) hv.2
    simp [a, b]
  | _ :: _, _ :: _, [], _, hv => hv.elim
  | [], _ :: _, _, h, _ => by simp at h
  | _ :: _, [], _, h, _ => by simp at h
theorem goes_buildSlice (hT : TIok P TI) (h : Rel B g s w a N) (hd : ∀ t, o.dst = some t → t < N) {t : TypeId} {len : Nat} {ps : Array (Nat × Operand)} (ho : o.op = .buildSlice t len ps)
    (he0 : (rdvs (ps.toList.map (·.2)) fun vs => pgBuildSlice TI o.dst t len ((ps.toList.map (·.1)).zip vs)).Ev C Rd s ws) : Goes P B N o s w a ws := by
  obtain ⟨vs, hv, he⟩ := rdvs_ev h he0
  clear he0
  have hlen : (ps.toList.map (·.1)).length = vs.length := by have := hv.len; simpa using this.symm
  obtain ⟨z1, z2⟩ := All2_zip hlen hv
  unfold pgBuildSlice at he
  cases hdst : o.dst with
  | none => rw [hdst] at he; exact he.elim
  | some tt =>
    rw [hdst] at he
    simp only [z1, z2] at he
    obtain ⟨vs', ws', g1, he, hp, h2, hk, hv2⟩ := snaps_ev (Promo.refl s) (by simpa [S.puts] using h) hv he
    unfold tinf at he
    cases hi : TI t with
    | none => rw [hi] at he; exact he.elim
    | some i =>
      rw [hi] at he
      obtain ⟨ti, d, z, T⟩ := hT.get hi
      cases hkn : i.kn with
      | slice e =>
        simp only [hkn] at he
        cases hei : TI e with
        | none => rw [hei] at he; exact he.elim
        | some ei =>
          rw [hei] at he
          simp only [] at he
          obtain ⟨ti2, d2, z2', E⟩ := hT.get hei
          cases hq : ei.rep && decide (len * ei.size ≤ 16777216) with
          | false => rw [hq] at he; simp only [] at he; exact he.elim
          | true =>
            cases hl : litv ei.ty (List.replicate len ei.ty.dflt) ((ps.toList.map (·.1)).zip vs') with
            | none => rw [hq, hl] at he; exact he.elim
            | some l =>
              rw [hq, hl] at he
              simp only [Bool.and_eq_true, decide_eq_true_eq] at hq
              obtain ⟨_, he⟩ := he
              have hlen' : (ps.toList.map (·.1)).length = vs'.length := by rw [hlen, hv.len, hv2.len]
              have hz : TR w g1.pr ei.ty ei.ty.dflt z2'.cells.toList := zOf_TR (E.zrep hq.1)
              have hrow0 := rowOf_zero hz len
              have hsz0 : (List.replicate len ei.ty.dflt).length * ei.ty.size ≤ ((Array.range (len * ei.ty.size)).map (z2'.cells.toList.toArray[· % z2'.cells.toList.toArray.size]!)).size := by simp
              obtain ⟨us', f1, f2, f3, f4⟩ := litv_row (place := fun i => some (i * ei.size, ei.size)) (fun i => by rw [E.tysz]) hlen' hv2 hl hrow0 hsz0
              cases ht : s.toks tt with
              | dead => rw [ht] at he; exact he.elim
              | mlive _ _ => rw [ht] at he; exact he.elim
              | live _ _ _ => rw [ht] at he; exact he.elim
              | abs =>
                rw [ht] at he
                have : ws = _ := he
                subst this
                have habs : (s.puts ws').toks tt = .abs := by
                  rcases hp.toks tt with e | ⟨_, _, e, _⟩
                  · rw [e, ht]
                  · rw [ht] at e; cases e
                have hlen2 : l.length = len := by rw [f3]; simp
                have hussz : us'.size = len * ei.ty.size := by rw [f2]; simp
                obtain ⟨g2, tg, h3, hτ, htv⟩ := h2.newTokAt habs (us := us') e (fr := (0, 0)) (cap := len) (thawT0 _ _ _) (by omega) (by omega) f4
                have h4 := h3.tmp (VR_ref hτ htv) (hd tt hdst)
                refine goes_value (g' := g2) (w' := w.alloc (.cells us' e)) (u := .slice (some ⟨w.heap.size, 0, none⟩) l.length len) ?_ (by rw [hdst, S.puts_append]; exact h4) (below_alloc h _)
                have hun := T.slice hkn
                have hfill : Instr.fill (fun i => some (i * ei.size, ei.size)) ((Array.range (len * ei.size)).map ((if len * ei.size = 0 then #[] else z2'.cells)[· % (if len * ei.size = 0 then #[] else z2'.cells).size]!)) (ps.map fun (i, x) => (i, a.eval x)).toList = some us' := by
                  have e1 : (ps.map fun (i, x) => (i, a.eval x)).toList = (ps.toList.map (·.1)).zip ((ps.toList.map (·.2)).map a.eval) := by
                    rw [Array.toList_map]; exact zip_unzip _ _
                  rw [e1]
                  by_cases h0 : len * ei.size = 0
                  · have : (Array.range (len * ei.ty.size)) = #[] := by rw [E.tysz, h0]; rfl
                    rw [this] at f1
                    rw [h0, show (Array.range 0) = #[] from rfl]
                    simpa using f1
                  · rw [if_neg h0]
                    rw [E.tysz] at f1
                    simpa using f1
                have hroom : ¬ (len * ei.size > 2 ^ 24) := by omega
                have hmap : (ps.map fun (x : Nat × Operand) => (x.fst, a.eval x.snd)).toList = (ps.map fun (i, x) => (i, a.eval x)).toList := rfl
                simp only [execOp, ho, Instr.buildSlice, Sem.run_bind, run_underlying hun, Result.andThen_ok, E.sizeOf, hroom, if_false, Sem.run_ite]
                by_cases h0 : len * ei.size = 0
                · rw [if_pos h0] at hfill ⊢
                  simp only [Sem.run_bind, Sem.run_pure, Result.andThen_ok, hmap, hfill, newRow, run_newObj_alloc, hlen2]
                · rw [if_neg h0] at hfill ⊢
                  simp only [Sem.run_bind, Sem.run_pure, Result.andThen_ok, zeroValue, typeInfo, run_program, E.info, E.zero, hmap, hfill, newRow, run_newObj_alloc, hlen2]
      | _ => simp only [hkn] at he; exact he.elim
end
end Go.Proofs.Ytjonpmckkmnemaa.Th
end
