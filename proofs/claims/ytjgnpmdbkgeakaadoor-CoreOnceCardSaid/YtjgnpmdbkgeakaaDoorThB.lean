/- THEORY, part B: running code abstractly, in a form that the kernel evaluates: regions, branches; loops and jumps by an oracle. No condition. -/
import Derived.Test.YtjgnpmdbkgeakaaDoorThA
set_option linter.unusedVariables false
set_option linter.unusedSimpArgs false
namespace Go.Proofs.YtjgnpmdbkgeakaaDoor.Th
open Go

inductive X where
  | norm | exit (id : Nat) | goto (l : Nat) | ret

/-- an operation with its guard -/
def pgG (TI : TEnv) (ops : List Oper) (o : Oper) : Pg :=
  match o.guard with
  | none => pg TI o
  | some (j, want) => match (ops[j]?).bind (·.dst) with
    | some t => .tmp t fun
      | .bool b => .ite (b == want) (pg TI o) (.ret (wrd o.dst (.tup [])))
      | .tup [] => .ret (wrd o.dst (.tup []))
      | _ => .fail
    | none => .fail

/-- the same, run: a guard that isn't known is taken both ways, and known from then on -/
def evalG (TI : TEnv) (O : Orc) {R : Type} (ops : List Oper) (o : Oper) (s : S) (K : S → List Rs → List Wr → Option R) : Option R :=
  match o.guard with
  | none => (pg TI o).evalK O s [] (K s)
  | some (j, want) => match (ops[j]?).bind (·.dst) with
    | some t => match s.tmps t with
      | .bool b =>
        sel b
          (match want with
           | true => (pg TI o).evalK O (s.put (.tmp t (.bool true))) [.tmp t] (K (s.put (.tmp t (.bool true))))
           | false => K (s.put (.tmp t (.bool true))) [.tmp t] (wrd o.dst (.tup [])))
          (match want with
           | false => (pg TI o).evalK O (s.put (.tmp t (.bool false))) [.tmp t] (K (s.put (.tmp t (.bool false))))
           | true => K (s.put (.tmp t (.bool false))) [.tmp t] (wrd o.dst (.tup [])))
      | .tup [] => K s [.tmp t] (wrd o.dst (.tup []))
      | _ => none
    | none => none

def evalOps (TI : TEnv) (O : Orc) {R : Type} (ops : List Oper) : List Oper → S → (S → Option R) → Option R
  | [], s, K => K s
  | o :: rest, s, K => evalG TI O ops o s fun s' _ ws => evalOps TI O ops rest (s'.puts ws) K

/-! regions that draw their order: each operation's reads and writes -/
def maskE (acc : List Nat) (m : Nat) (e : Edge) : Nat := match Region.binds .any e with
  | true => m ||| 2 ^ e.on ||| acc.getD e.on 0
  | false => m
def maskOf (o : Oper) (acc : List Nat) : Nat := o.after.toList.foldl (maskE acc) 0
def ancs : List Oper → List Nat → List Nat
  | [], acc => acc
  | o :: os, acc => ancs os (acc ++ [maskOf o acc])

def Rs.beq : Rs → Rs → Bool
  | .tmp a, .tmp b => Nat.beq a b
  | .box a, .box b => Nat.beq a b
  | .tok a, .tok b => Nat.beq a b
  | _, _ => false
def Rs.mem (r : Rs) : List Rs → Bool
  | [] => false
  | x :: xs => bif r.beq x then true else r.mem xs
def meets : List Rs → List Rs → Bool
  | [], _ => false
  | x :: xs, ys => bif x.mem ys then true else meets xs ys

structure Fp where
  rd : List Rs
  wr : List Rs

def Fp.apart (a b : Fp) : Bool := bif meets a.wr b.rd then false else bif meets a.wr b.wr then false else !meets b.wr a.rd

/-- operation j (its ancestors: the bits of m) against those ahead of it, the last first -/
def apartAll (m : Nat) (f : Fp) : Nat → List Fp → Bool
  | _, [] => true
  | i, g :: gs => bif (bif Nat.testBit m i then true else g.apart f) then apartAll m f (i + 1) gs else false

def evalDraw (TI : TEnv) (O : Orc) {R : Type} (ops : List Oper) : List Oper → List Nat → List Fp → S → (S → Option R) → Option R
  | [], _, _, s, K => K s
  | o :: rest, ms, fs, s, K => evalG TI O ops o s fun s' rd ws =>
    match ms with
    | [] => none
    | m :: ms => bif apartAll m ⟨rd, ws.map Wr.rs⟩ 0 fs then evalDraw TI O ops rest ms (fs ++ [⟨rd, ws.map Wr.rs⟩]) (s'.puts ws) K else none

/-- each edge that binds leads to an operation ahead -/
def edgeOK (i : Nat) (e : Edge) : Bool := match Region.binds .any e with
  | true => Nat.blt e.on i
  | false => true
def edgesBack : Nat → List Oper → Bool
  | _, [] => true
  | i, o :: os => bif o.after.toList.all (edgeOK i) then edgesBack (i + 1) os else false

/-! code -/
/-- the first region's number: it names a loop -/
def firstRegion : Code → Nat
  | .region id _ _ => id
  | .seq a _ => firstRegion a
  | .block _ b | .loop b | .scope b => firstRegion b
  | .cond _ a _ => firstRegion a
  | _ => 0

/-- the loop whose first region is r: its body -/
def findLoop (r : Nat) : Code → Option Code
  | .loop b => bif Nat.beq (firstRegion b) r then some b else findLoop r b
  | .seq a b => match findLoop r a with
    | some c => some c
    | none => findLoop r b
  | .block _ b | .scope b => findLoop r b
  | .cond _ a b => match findLoop r a with
    | some c => some c
    | none => findLoop r b
  | _ => none

/-- the scope that holds label l: its body -/
def findScope (l : Nat) : Code → Option Code
  | .scope b => match findLabel b l with
    | some _ => some b
    | none => findScope l b
  | .seq a b => match findScope l a with
    | some c => some c
    | none => findScope l b
  | .block _ b | .loop b => findScope l b
  | .cond _ a b => match findScope l a with
    | some c => some c
    | none => findScope l b
  | _ => none

/-- what loops and jumps answer -/
inductive Lk where
  | loop (r : Nat)
  | label (l : Nat)
def LOrc := (R : Type) → Lk → S → (X → S → Option R) → Option R

def noGotos : Code → Bool
  | .goto _ => false
  | .seq a b => noGotos a && noGotos b
  | .block _ b | .loop b | .scope b => noGotos b
  | .cond _ a b => noGotos a && noGotos b
  | _ => true

def run (TI : TEnv) (O : Orc) (L : LOrc) {R : Type} : Code → S → (X → S → Option R) → Option R
  | .skip, s, K => K .norm s
  | .label _, s, K => K .norm s
  | .ret, s, K => K .ret s
  | .exit id, s, K => K (.exit id) s
  | .goto l, s, K => K (.goto l) s
  | .seq a b, s, K => run TI O L a s fun
    | .norm, s' => run TI O L b s' K
    | x, s' => K x s'
  | .cond (.tmp t) a b, s, K => match s.tmps t with
    | .bool c => sel c (run TI O L a s K) (run TI O L b s K)
    | _ => none
  | .block id b, s, K => run TI O L b s fun
    | .exit id', s' => bif Nat.beq id' id then K .norm s' else K (.exit id') s'
    | x, s' => K x s'
  | .loop b, s, K => L R (.loop (firstRegion b)) s K
  | .scope b, s, K => run TI O L b s fun
    | .goto l, s' => match findLabel b l with
      | some _ => L R (.label l) s' K
      | none => K (.goto l) s'
    | x, s' => K x s'
  | .region _ ops draw, s, K => match draw with
    | false => evalOps TI O ops.toList ops.toList s (K .norm)
    | true => bif edgesBack 0 ops.toList then evalDraw TI O ops.toList ops.toList (ancs ops.toList []) [] s (K .norm) else none
  | _, _, _ => none

/-! a state forgets: at a loop's head, at a label, at an exit -/
/-- where a value lies: in a slot, or in a cell of a box -/
inductive Pos where
  | tmp (t : Nat)
  | cell (b j : Nat)
  | res (a : Nat)

def Pos.beq : Pos → Pos → Bool
  | .tmp a, .tmp b => Nat.beq a b
  | .cell a i, .cell b j => bif Nat.beq a b then Nat.beq i j else false
  | .res a, .res b => Nat.beq a b
  | _, _ => false

/-- the name of the row that lies there -/
def Pos.name : Pos → Nat
  | .tmp t => t
  | .cell b j => 2000000 + 1000 * b + j
  | .res a => 90000000 + a

/-- a shared row as a plain list -/
def derefC (s : S) : AV → AV
  | .ref h => match s.toks h with
    | .live true T l => .sl T l
    | _ => .undef
  | v => v

def aggOf (cs : List AV) : AV := match cs.all isPlainCell with
  | true => .agg cs
  | false => .undef

def Pos.get (s : S) : Pos → AV
  | .tmp t => s.tmps t
  | .cell b j => match s.boxes b with
    | some cs => cs.getD j .undef
    | none => .undef
  | .res a => match s.tmps a with
    | .ptr b 0 => match s.boxes b with
      | some cs => aggOf (cs.map (derefC s))
      | none => .undef
    | _ => .undef

/-- how a value is kept: as a plain one, as a row of its own, as a pointer into a kept box -/
inductive MC where
  | val (T : Ty)
  | row (sh : Bool) (T : Ty)
  | ptr (b o : Nat)

structure Msk where
  items : List (Pos × MC)
  boxes : List (Nat × Nat)

def denL : List (Pos × MC) → Type
  | [] => Unit
  | (_, .val T) :: l => T.den × denL l
  | (_, .row _ T) :: l => List T.den × denL l
  | (_, .ptr _ _) :: l => denL l

abbrev Msk.den (m : Msk) : Type := denL m.items

def shareT (h : Nat) (s : S) : S := match s.toks h with
  | .live false T l => s.put (.tok h (.live true T l))
  | _ => s

def snapT (m : MC) (v : AV) (s : S) : S := match m with
  | .val _ => match v with
    | .ref h => shareT h s
    | _ => s
  | .row true _ => match v with
    | .ref h => shareT h s
    | _ => s
  | _ => s

def shareAll : List AV → S → S
  | [], s => s
  | v :: cs, s => match v with
    | .ref h => shareAll cs (shareT h s)
    | _ => shareAll cs s

def snapP (p : Pos) (m : MC) (s : S) : S := match p with
  | .res a => match s.tmps a with
    | .ptr b _ => match s.boxes b with
      | some cs => shareAll cs s
      | none => s
    | _ => s
  | .tmp t => snapT m (s.tmps t) s
  | .cell b j => snapT m (Pos.get s (.cell b j)) s

def snapL : List (Pos × MC) → S → S
  | [], s => s
  | (p, m) :: l, s => snapL l (snapP p m s)

def decV (s : S) (T : Ty) (v : AV) : Option T.den := match T.isSt with
  | true => match v with
    | .agg cs => T.ofCells cs
    | _ => none
  | false => match v with
    | .ref h => match s.toks h with
      | .live true T' l => T.ofCells [.sl T' l]
      | _ => none
    | v => bif isPlainCell v then T.ofCells [v] else none

def decR (s : S) (sh : Bool) (T : Ty) (v : AV) (used : List Nat) : Option (List T.den × List Nat) := match v with
  | .nilsl => some ([], used)
  | .ref h => match s.toks h with
    | .live sh' T' l => bif (bif sh' == sh then !used.any (Nat.beq h) else false) then match T'.dec T with
      | some e => some (e.down ▸ l, h :: used)
      | none => none
      else none
    | _ => none
  | _ => none

def decP (bs : List Nat) (b o : Nat) (v : AV) : Bool := match v with
  | .ptr b' o' => bif Nat.beq b' b then bif Nat.beq o' o then bs.any (Nat.beq b) else false else false
  | _ => false

def decL (s : S) (bs : List Nat) : (l : List (Pos × MC)) → List Nat → Option (denL l × List Nat)
  | [], used => some ((), used)
  | (p, .val T) :: l, used => match decV s T (p.get s) with
    | some x => match decL s bs l used with
      | some y => some ((x, y.1), y.2)
      | none => none
    | none => none
  | (p, .row sh T) :: l, used => match decR s sh T (p.get s) used with
    | some x => match decL s bs l x.2 with
      | some y => some ((x.1, y.1), y.2)
      | none => none
    | none => none
  | (p, .ptr b o) :: l, used => match decP bs b o (p.get s) with
    | true => decL s bs l used
    | false => none

def boxesOK (s : S) : List (Nat × Nat) → Bool
  | [] => true
  | (b, n) :: l => bif (match s.boxes b with
    | some cs => bif Nat.beq cs.length n then !cs.any isFz else false
    | none => false) then boxesOK s l else false

def Msk.dec (m : Msk) (s : S) : Option m.den := match boxesOK s m.boxes with
  | true => match decL (snapL m.items s) (m.boxes.map (·.1)) m.items [] with
    | some y => some y.1
    | none => none
  | false => none

def avL : (l : List (Pos × MC)) → denL l → List (Pos × AV)
  | [], _ => []
  | (p, .val T) :: l, v => (p, T.av v.1) :: avL l v.2
  | (p, .row _ _) :: l, v => (p, .ref p.name) :: avL l v.2
  | (p, .ptr b o) :: l, v => (p, .ptr b o) :: avL l v

def tkL : (l : List (Pos × MC)) → denL l → List (Nat × Tok)
  | [], _ => []
  | (_, .val _) :: l, v => tkL l v.2
  | (p, .row sh T) :: l, v => (p.name, .live sh T v.1) :: tkL l v.2
  | (_, .ptr _ _) :: l, v => tkL l v

def tbl {α : Type} (d : α) : List (Nat × α) → Nat → α
  | [], _ => d
  | (t, v) :: rest, i => bif Nat.beq i t then v else tbl d rest i

def lookP : List (Pos × AV) → Pos → AV
  | [], _ => .undef
  | (q, v) :: r, p => bif q.beq p then v else lookP r p

def Msk.enc (m : Msk) (v : m.den) : S where
  tmps := fun t => lookP (avL m.items v) (.tmp t)
  boxes := fun b => match tbl none (m.boxes.map fun x => (x.1, some x.2)) b with
    | some n => some ((List.range n).map fun j => lookP (avL m.items v) (.cell b j))
    | none => none
  toks := tbl .abs (tkL m.items v)

def nodupB : List Nat → Bool
  | [] => true
  | a :: l => !l.any (Nat.beq a) && nodupB l

def Msk.ok (m : Msk) : Bool := nodupB (m.items.map fun x => x.1.name)

/-! ways out of a loop, or of the passes from a label -/
def X.beq : X → X → Bool
  | .norm, .norm => true
  | .exit a, .exit b => Nat.beq a b
  | .goto a, .goto b => Nat.beq a b
  | .ret, .ret => true
  | _, _ => false

def denE : List (X × Msk) → Type
  | [] => Empty
  | [(_, m)] => m.den
  | (_, m) :: (y, m') :: l => m.den ⊕ denE ((y, m') :: l)

/-- which way out was taken -/
def esel {α β γ : Type} (e : α ⊕ β) (f : α → γ) (g : β → γ) : γ := match e with
  | .inl v => f v
  | .inr v => g v

def outE {R : Type} : (l : List (X × Msk)) → denE l → (X → S → Option R) → Option R
  | [], _, _ => none
  | [(x, m)], e, K => K x (m.enc e)
  | (x, m) :: (y, m') :: l, e, K => esel e (fun v => K x (m.enc v)) (fun e => outE ((y, m') :: l) e K)

def inE : (l : List (X × Msk)) → X → S → Option (denE l)
  | [], _, _ => none
  | [(x, m)], x', s => bif x.beq x' then m.dec s else none
  | (x, m) :: (y, m') :: l, x', s => bif x.beq x' then (match m.dec s with
      | some v => some (.inl v)
      | none => none)
    else match inE ((y, m') :: l) x' s with
      | some e => some (.inr e)
      | none => none

def obind {α β : Type} (x : Option α) (f : α → Option β) : Option β := match x with
  | some v => f v
  | none => none

/-- a call of a function of plain values -/
def ocall {α β : Type} (x : Option α) (f : α → Option β) : Option β := obind x f

/-- what a loop answers, by a function of plain values -/
def link {R : Type} (m : Msk) (xs : List (X × Msk)) (f : m.den → Option (denE xs)) (s : S) (K : X → S → Option R) : Option R :=
  obind (m.dec s) fun v => ocall (f v) fun e => outE xs e K

/-- one round of a loop: n is the next -/
def round (TI : TEnv) (O : Orc) (L : LOrc) (b : Code) (m : Msk) (xs : List (X × Msk)) (n : m.den → Option (denE xs)) (v : m.den) : Option (denE xs) :=
  run TI O L b (m.enc v) fun x s => match x with
    | .norm => obind (m.dec s) n
    | .exit i => inE xs (.exit i) s
    | .goto l => inE xs (.goto l) s
    | .ret => inE xs .ret s

/-! jumps -/
/-- from a label on: n is the next pass -/
def hop (TI : TEnv) (O : Orc) (L : LOrc) (b : Code) (ls xs : List (X × Msk)) (n : denE ls → Option (denE xs)) (rest : Code) (s : S) : Option (denE xs) :=
  run TI O L rest s fun x s => match x with
    | .goto l => match findLabel b l with
      | some _ => obind (inE ls (.goto l) s) n
      | none => inE xs (.goto l) s
    | .norm => inE xs .norm s
    | .exit i => inE xs (.exit i) s
    | .ret => inE xs .ret s

def pass (TI : TEnv) (O : Orc) (L : LOrc) (b : Code) (ls xs : List (X × Msk)) (n : denE ls → Option (denE xs)) (e : denE ls) : Option (denE xs) :=
  outE ls e fun x s => match x with
    | .goto l => match findLabel b l with
      | some rest => hop TI O L b ls xs n rest s
      | none => none
    | _ => none

/-- what the passes from label l answer -/
def linkJ {R : Type} (ls xs : List (X × Msk)) (f : denE ls → Option (denE xs)) (l : Nat) (s : S) (K : X → S → Option R) : Option R :=
  obind (inE ls (.goto l) s) fun v => ocall (f v) fun e => outE xs e K

/-! functions -/
def start (args : List AV) : S := { tmps := fun i => args.getD i .undef, boxes := fun _ => none, toks := fun _ => .abs }

def endF (mo : Msk) (x : X) (s : S) : Option mo.den := match x with
  | .ret => mo.dec s
  | .norm => mo.dec s
  | _ => none

/-- what a function answers: its results' slots, kept -/
def runF (TI : TEnv) (O : Orc) (L : LOrc) (c : Code) (mi mo : Msk) (v : mi.den) : Option mo.den := run TI O L c (mi.enc v) (endF mo)

def outL : (l : List (Pos × MC)) → denL l → List AV
  | [], _ => []
  | (_, .val T) :: l, v => T.av v.1 :: outL l v.2
  | (_, .row _ T) :: l, v => .own T v.1 :: outL l v.2
  | (_, .ptr _ _) :: l, v => .undef :: outL l v

def ansOf : List AV → AV
  | [v] => v
  | vs => .tup vs

/-- what a call of a function answers, of plain values -/
def callF {R : Type} (mi mo : Msk) (f : mi.den → Option mo.den) (args : List AV) (K : AV → Option R) : Option R :=
  bif Nat.beq args.length mi.items.length then obind (mi.dec (start args)) fun v => ocall (f v) fun r => K (ansOf (outL mo.items r)) else none

/-- a call of a function of one slice, nil or not -/
def callN {R : Type} (T : Ty) (mo : Msk) (f : List T.den → Option mo.den) (args : List AV) (K : AV → Option R) : Option R := match args with
  | [.sl T' l] => match T'.dec T with
    | some h => ocall (f (h.down ▸ l)) fun r => K (ansOf (outL mo.items r))
    | none => none
  | [.nilsl] => ocall (f []) fun r => K (ansOf (outL mo.items r))
  | _ => none

/-! functions that answer one of several kinds -/
def denA : List Msk → Type
  | [] => Empty
  | [m] => m.den
  | m :: m' :: l => m.den ⊕ denA (m' :: l)

def inA : (l : List Msk) → S → Option (denA l)
  | [], _ => none
  | [m], s => m.dec s
  | m :: m' :: l, s => match m.dec s with
    | some v => some (.inl v)
    | none => match inA (m' :: l) s with
      | some e => some (.inr e)
      | none => none

def endA (ms : List Msk) (x : X) (s : S) : Option (denA ms) := match x with
  | .ret => inA ms s
  | .norm => inA ms s
  | _ => none

def outA {R : Type} : (l : List Msk) → denA l → (AV → Option R) → Option R
  | [], _, _ => none
  | [m], v, K => K (ansOf (outL m.items v))
  | m :: m' :: l, e, K => esel e (fun v => K (ansOf (outL m.items v))) (fun e => outA (m' :: l) e K)

def valA : (l : List Msk) → denA l → AV
  | [], _ => .undef
  | [m], v => ansOf (outL m.items v)
  | m :: m' :: l, e => match e with
    | .inl v => ansOf (outL m.items v)
    | .inr e => valA (m' :: l) e

def runA (TI : TEnv) (O : Orc) (L : LOrc) (c : Code) (mi : Msk) (ms : List Msk) (v : mi.den) : Option (denA ms) := run TI O L c (mi.enc v) (endA ms)

def callA {R : Type} (mi : Msk) (ms : List Msk) (f : mi.den → Option (denA ms)) (args : List AV) (K : AV → Option R) : Option R :=
  bif Nat.beq args.length mi.items.length then obind (mi.dec (start args)) fun v => ocall (f v) fun r => outA ms r K else none

/-! functions that get a box for the time of a call -/
/-- the name of the own row in a lent box's cell -/
def lentName (j : Nat) : Nat := (Pos.cell lentBox j).name
def lentWrs : List AV → Nat → List Wr
  | [], _ => []
  | .own T l :: cs, j => .tok (lentName j) (.live false T l) :: lentWrs cs (j + 1)
  | _ :: cs, j => lentWrs cs (j + 1)
def lentCells : List AV → Nat → List AV
  | [], _ => []
  | .own _ _ :: cs, j => .ref (lentName j) :: lentCells cs (j + 1)
  | v :: cs, j => v :: lentCells cs (j + 1)
def lentBase (vs cs : List AV) : S := { tmps := fun i => vs.getD i .undef, boxes := fun b => bif Nat.beq b lentBox then some (blanks cs) else none, toks := fun _ => .abs }
/-- where such a call starts -/
def startL (vs cs : List AV) : S := ((lentBase vs cs).puts (lentWrs cs 0)).put (.box lentBox (lentCells cs 0))

/-- what lies at the places of a mask: pointers too -/
def outM : (l : List (Pos × MC)) → denL l → List AV
  | [], _ => []
  | (_, .val T) :: l, v => T.av v.1 :: outM l v.2
  | (_, .row _ T) :: l, v => .own T v.1 :: outM l v.2
  | (_, .ptr b o) :: l, v => .ptr b o :: outM l v

/-- results, and the box's cells behind them -/
def backOf (nr : Nat) (l : List AV) : AV := .back (ansOf (l.take nr)) (l.drop nr)

def outB {R : Type} (nr : Nat) : (l : List Msk) → denA l → (AV → Option R) → Option R
  | [], _, _ => none
  | [m], v, K => K (backOf nr (outM m.items v))
  | m :: m' :: l, e, K => esel e (fun v => K (backOf nr (outM m.items v))) (fun e => outB nr (m' :: l) e K)

def valB (nr : Nat) : (l : List Msk) → denA l → AV
  | [], _ => .undef
  | [m], v => backOf nr (outM m.items v)
  | m :: m' :: l, e => match e with
    | .inl v => backOf nr (outM m.items v)
    | .inr e => valB nr (m' :: l) e

def splitLent : List AV → Option (List AV × List AV)
  | [] => none
  | [.lent cs] => some ([], cs)
  | v :: vs => match splitLent vs with
    | some (a, cs) => some (v :: a, cs)
    | none => none

def callB {R : Type} (mi : Msk) (na nr : Nat) (ms : List Msk) (f : mi.den → Option (denA ms)) (args : List AV) (K : AV → Option R) : Option R := match splitLent args with
  | some (vs, cs) => bif Nat.beq vs.length na then obind (mi.dec (startL vs cs)) fun v => ocall (f v) fun r => outB nr ms r K else none
  | none => none

end Go.Proofs.YtjgnpmdbkgeakaaDoor.Th
