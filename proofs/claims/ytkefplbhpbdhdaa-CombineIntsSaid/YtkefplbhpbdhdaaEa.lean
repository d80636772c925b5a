/- An evaluator by value of the translated code, and a calculus of it: what it computes, the machine of the model computes (for the operations that are listed, under no further condition). -/
import Derived.Calls
import Derived.Laws.World
import Derived.Laws.Sem
import Derived.Below
import Derived.Lib.FrozenHead
import Derived.WalkKit
import Derived.Laws.BytesString
import Derived.Laws.AppendOwn
set_option linter.all false
/- The data evaluator: values by value, a frame's own boxes, operations as requests. Definitions alone: nothing is claimed here. -/
namespace Go.Dev
open Go

/-- A closed value: no address of a variable that may be written. -/
inductive V where
  | s (x : Value)
  | sl (es : List (List V))
  | pt (cs : List V)

/-- A variable of the frame's own (the home h, at its g-th making), or one handed in. -/
inductive Key where
  | loc (h g : Nat)
  | fo (i : Nat)
  deriving DecidableEq

/-- What one cell holds. -/
inductive C where
  | v (x : V)
  | esl
  | lin (h g ty : Nat) (es : List (List V))
  | osl (k : Key) (sz off len : Nat)
  | ref (k : Key) (off : Nat)
  | fn (f : Fn) (first caps : List C)
  | own (ty : Nat) (es : List (List V))
  | sd (h g ty : Nat) (es : List (List V))
  | dead

/-- What a temporary holds. -/
inductive T where
  | one (c : C)
  | agg (cs : List C)
  | tup (ts : List T)

/-- A variable: its making, the type of its cells (0: not told), what they hold. -/
structure Ob where
  g : Nat
  ty : Nat
  cs : List C

/-- A frame: its temporaries; its homes (n for its variables, n for the lists that these hold, one for each variable handed in); what was handed in. -/
structure Fr where
  n : Nat
  tm : List T
  bx : List Ob
  fo : List Ob

inductive Opd where
  | t (n : Nat)
  | c (x : T)

inductive Cv where
  | toInt (k : IntKind)
  | toFloat (k : FloatKind)
  | bytesToStr
  | strToBytes

inductive DOp where
  | mv (x : Opd)
  | pick (c a b : Opd)
  | alloc (ty : Nat) (zs : List C)
  | box (ty : Nat) (x : Opd)
  | build (zs : List C) (parts : List (Nat × Nat × Opd))
  | bsl (ty sz : Nat) (own : Bool) (parts : List Opd)
  | load (sz : Option Nat) (x : Opd)
  | store (sz : Nat) (x y : Opd)
  | nilck (x : Opd)
  | bin (op : BinOp) (x y : Opd)
  | peq (neq : Bool) (x y : Opd)
  | beq (neq : Bool) (x y : Opd)
  | pub (sz : Nat) (x : Opd)
  | un (op : UnOp) (x : Opd)
  | conv (k : Cv) (x : Opd)
  | mkfn (fn : Fn) (first caps : List Opd)
  | slice (str : Bool) (sz : Nat) (x : Opd) (lo hi mx : Option Opd)
  | faddr (off : Nat) (x : Opd)
  | iaddr (sz : Nat) (x i : Opd)
  | index (x i : Opd)
  | extract (x : Opd) (i : Nat)
  | call (f : Opd) (args : List Opd)
  | len (str : Bool) (x : Opd)
  | append (ty sz bytes : Nat) (own : Bool) (x y : Opd)
  | clear (zs : List C) (x : Opd)
  | pureBi (b : Builtin) (args : List Opd)
  | pcast (al : List (Nat × Nat × Nat)) (x : Opd)
  | sdata (x : Opd)
  | ustr (ty : Nat) (x y : Opd)

structure DOper where
  dst : Option Nat
  op : DOp
  guard : Option (Nat × Bool)
  adopt : Bool := false

inductive DCode where
  | skip
  | region (ops : List DOper) (bad : List (Nat × Nat))
  | seq (a b : DCode)
  | cond (c : Opd) (x y : DCode)
  | block (id : Nat) (c : DCode)
  | loop (c : DCode)
  | exit (id : Nat)
  | scope (c : DCode)
  | sc (body c : DCode)
  | bad
  | label (l : Nat)
  | goto (l : Nat)
  | ret

inductive DRes where
  | t (n : Nat)
  | cell (n : Nat) (sz : Option Nat)

structure DFn where
  ntmps : Nat
  res : List DRes
  body : DCode

/-! ### Small readers -/

def tInt (k : IntKind) (n : Int) : T := .one (.v (.s (.int k n)))
def tI (n : Int) : T := tInt .i64 n
def tB (b : Bool) : T := .one (.v (.s (.bool b)))
def tS (s : ByteArray) : T := .one (.v (.s (.string s)))

def Fr.get (fr : Fr) : Opd → T
  | .t n => fr.tm.getD n (.one .dead)
  | .c x => x

/-- A cell as a closed value: a list that was built here is looked at as it stands. -/
def C.toV : C → Option V
  | .v x => some x
  | .esl => some (.sl [])
  | .lin _ _ _ es => some (.sl es)
  | _ => none

def toVs : List C → Option (List V)
  | [] => some []
  | c :: cs => match c.toV, toVs cs with
    | some x, some xs => some (x :: xs)
    | _, _ => none

def T.cells : T → List C
  | .one c => [c]
  | .agg cs => cs
  | .tup _ => []

/-- The cells of a value that may be stored. -/
def T.cellsO : T → Option (List C)
  | .one .dead => none
  | .one c => some [c]
  | .agg cs => some cs
  | .tup _ => none

def T.toVs : T → Option (List V)
  | .one c => Dev.toVs [c]
  | .agg cs => Dev.toVs cs
  | .tup _ => none

def T.int? : T → Option Int
  | .one (.v (.s (.int _ n))) => some n
  | _ => none

/-- The elements of a list that may be looked at. -/
def C.elems : C → Option (List (List V))
  | .v (.sl es) => some es
  | .esl => some []
  | .lin _ _ _ es => some es
  | _ => none

/-! ### Requests: which variables are looked at, and what comes of it -/

inductive Loc where
  | home (h : Nat)
  | fo (i : Nat)
  deriving DecidableEq

def Key.at : Key → Loc
  | .loc h _ => .home h
  | .fo i => .fo i

inductive W where
  | cells (l : Loc) (off : Nat) (cs : List C)
  | setb (h : Nat) (o : Ob)

abbrev Ans := Option (T × List W)

inductive Req where
  | done (a : Ans)
  | rd (ls : List Loc) (k : List Ob → Req)

def Req.one (l : Loc) (k : Ob → Ans) : Req := .rd [l] fun | [x] => .done (k x) | _ => .done none
def Req.two (l m : Loc) (k : Ob → Ob → Ans) : Req := .rd [l, m] fun | [x, y] => .done (k x y) | _ => .done none

def Fr.look (fr : Fr) : Loc → Option Ob
  | .home h => fr.bx[h]?
  | .fo i => fr.fo[i]?

def Fr.looks (fr : Fr) : List Loc → Option (List Ob)
  | [] => some []
  | l :: ls => match fr.look l, fr.looks ls with
    | some x, some xs => some (x :: xs)
    | _, _ => none

/-- cells from a place on. -/
def splice (old : List C) (off : Nat) (new : List C) : List C := old.take off ++ new ++ old.drop (off + new.length)

/-- The answer, and all that was looked at. -/
def Fr.ask (fr : Fr) : Req → Option (T × List W × List Loc)
  | .done none => none
  | .done (some (t, ws)) => some (t, ws, [])
  | .rd ls k => match fr.looks ls with
    | none => none
    | some obs => match fr.ask (k obs) with
      | none => none
      | some (t, ws, ls') => some (t, ws, ls ++ ls')

def Fr.write (fr : Fr) : W → Option Fr
  | .cells (.home h) off cs => match fr.bx[h]? with
    | some o => if off + cs.length ≤ o.cs.length then some { fr with bx := fr.bx.set h { o with cs := splice o.cs off cs } } else none
    | none => none
  | .cells (.fo i) off cs => match fr.fo[i]? with
    | some o => if off + cs.length ≤ o.cs.length then some { fr with fo := fr.fo.set i { o with cs := splice o.cs off cs } } else none
    | none => none
  | .setb h o => if h < fr.bx.length then some { fr with bx := fr.bx.set h o } else none

def Fr.writes (fr : Fr) : List W → Option Fr
  | [] => some fr
  | x :: xs => match fr.write x with
    | some fr' => fr'.writes xs
    | none => none

def Key.fits (k : Key) (g : Nat) : Bool := match k with | .loc _ g' => g' == g | .fo _ => true

def putT (fr : Fr) (dst : Option Nat) (x : T) : Fr := match dst with
  | some d => { fr with tm := fr.tm.set d x }
  | none => fr

/-! ### Scalars -/

def pureOf : Sem Value → Option Value
  | .pure v => some v
  | _ => none

def strOp (op : BinOp) (a b : ByteArray) : Option Value := pureOf (Op.stringOp op a b)

def scal (op : BinOp) : Value → Value → Option Value
  | .int k a, .int k' b => if op == .shl || op == .shr then pureOf (Op.shift op k a k' b) else if k = k' then
      (match op with
      | .add | .sub | .mul => pureOf (Op.intArith op k a b)
      | .quo | .rem => pureOf (Op.intDiv op k a b)
      | .and | .or | .xor | .andNot => pureOf (Op.intBits op k a b)
      | _ => pureOf (Op.intCmp op a b)) else none
  | .float k a, .float k' b => if k = k' then (match op with
      | .add | .sub | .mul | .quo => pureOf (Op.floatArith op k a b)
      | _ => pureOf (Op.floatCmp op k a b)) else none
  | .complex k a b, .complex k' c d => if k = k' then pureOf (Op.complexOp op k a b c d) else none
  | .string a, .string b => strOp op a b
  | _, _ => none

/-- A scalar. -/
def lit : Value → Option T
  | .bool b => some (tB b)
  | .int k n => some (tInt k n)
  | .string s => some (tS s)
  | .float k b => some (.one (.v (.s (.float k b))))
  | .complex k a b => some (.one (.v (.s (.complex k a b))))
  | _ => none

def bin (op : BinOp) : T → T → Option T
  | .one (.v (.s x)), .one (.v (.s y)) => (scal op x y).bind lit
  | _, _ => none

def un (op : UnOp) : T → Option T
  | .one (.v (.s x)) => (pureOf (Op.unary op x)).bind lit
  | _ => none

def bytesV : List V → Option (List UInt8)
  | [] => some []
  | .s (.int .u8 n) :: xs => (bytesV xs).map (UInt8.ofNat n.toNat :: ·)
  | _ => none

def byteCells (s : ByteArray) : List (List V) := s.data.toList.map fun b => [.s (.int .u8 b.toNat)]

def conv : Cv → T → Option T
  | .toInt k, .one (.v (.s (.int _ n))) => some (tInt k (k.wrap n))
  | .toFloat k, .one (.v (.s (.int _ n))) => some (.one (.v (.s (.float k (k.nearest n)))))
  | .toInt k, .one (.v (.s (.float s b))) => (pureOf (Conv.floatToInt s b k)).bind lit
  | .bytesToStr, .one c => match c.elems with
    | some es => if es.all (·.length == 1) then (bytesV es.flatten).map fun bs => tS ⟨bs.toArray⟩ else none
    | none => none
  | .strToBytes, .one (.v (.s (.string s))) => some (.one (.v (.sl (byteCells s))))
  | _, _ => none

def pureBi (b : Builtin) (args : List T) : Option T :=
  match b, args with
  | .real, [.one (.v (.s (.complex k re _)))] => some (.one (.v (.s (.float k re))))
  | .imag, [.one (.v (.s (.complex k _ im)))] => some (.one (.v (.s (.float k im))))
  | .complex, [.one (.v (.s (.float k re))), .one (.v (.s (.float k' im)))] => if k = k' then some (.one (.v (.s (.complex k re im)))) else none
  | .min, [.one (.v (.s (.int k a))), .one (.v (.s (.int k' b)))] => if k = k' then some (tInt k (if b < a then b else a)) else none
  | .max, [.one (.v (.s (.int k a))), .one (.v (.s (.int k' b)))] => if k = k' then some (tInt k (if a < b then b else a)) else none
  | _, _ => none

/-! ### Calls: what is handed in -/

/-- The variables that a cell leads to. -/
def refsC : C → List Key
  | .ref k _ => [k]
  | .osl k _ _ _ => [k]
  | .fn _ first caps => refsL first ++ refsL caps
  | _ => []
where
  refsL : List C → List Key
    | [] => []
    | c :: cs => refsC c ++ refsL cs

def refsT : T → List Key
  | .one c => refsC c
  | .agg cs => refsC.refsL cs
  | .tup _ => []

def dedup : List Key → List Key
  | [] => []
  | k :: ks => if k ∈ dedup ks then dedup ks else k :: dedup ks

/-- A cell as the callee gets it. -/
def trC (ks : List Key) : C → C
  | .v x => .v x
  | .esl => .v (.sl [])
  | .lin _ _ _ es => .v (.sl es)
  | .osl k sz off len => match ks.idxOf? k with | some i => .osl (.fo i) sz off len | none => .dead
  | .ref k off => match ks.idxOf? k with | some i => .ref (.fo i) off | none => .dead
  | .fn f first caps => .fn f (trL ks first) (trL ks caps)
  | .own _ _ => .dead
  | .sd _ _ _ _ => .dead
  | .dead => .dead
where
  trL (ks : List Key) : List C → List C
    | [] => []
    | c :: cs => trC ks c :: trL ks cs

def trT (ks : List Key) : T → T
  | .one c => .one (trC ks c)
  | .agg cs => .agg (trC.trL ks cs)
  | .tup _ => .one .dead

/-- The cells of a variable that is handed in; the list that it owns (home h, making g) goes with it, once. -/
def cin (ks : List Key) (h g : Nat) : Bool → List C → List C
  | _, [] => []
  | b, .esl :: cs => .esl :: cin ks h g b cs
  | true, .lin h' g' ty es :: cs => if h' = h ∧ g' = g then .own ty es :: cin ks h g false cs else .v (.sl es) :: cin ks h g true cs
  | b, c :: cs => trC ks c :: cin ks h g b cs

/-- A result's cell as the caller gets it. -/
def backC (ks : List Key) : C → Option C
  | .v x => some (.v x)
  | .esl => some .esl
  | .osl (.fo i) sz off len => (ks[i]?).map fun k => .osl k sz off len
  | .ref (.fo i) off => (ks[i]?).map fun k => .ref k off
  | _ => none

def backL (ks : List Key) : List C → Option (List C)
  | [] => some []
  | c :: cs => match backC ks c, backL ks cs with
    | some x, some xs => some (x :: xs)
    | _, _ => none

def backT (ks : List Key) : T → Option T
  | .one c => (backC ks c).map .one
  | .agg cs => (backL ks cs).map .agg
  | .tup ts => (backTs ks ts).map .tup
where
  backTs (ks : List Key) : List T → Option (List T)
    | [] => some []
    | t :: ts => match backT ks t, backTs ks ts with
      | some x, some xs => some (x :: xs)
      | _, _ => none

/-- The cells of a variable that was handed in, behind the call. -/
def cback (ks : List Key) (h g : Nat) : List C → List C
  | [] => []
  | .esl :: cs => .esl :: cback ks h g cs
  | .own ty es :: cs => .lin h g ty es :: cback ks h g cs
  | c :: cs => (backC ks c).getD .dead :: cback ks h g cs

def tokH (n : Nat) : Loc → Nat
  | .home h => n + h
  | .fo i => 2 * n + i

/-- What a call comes to: whether the list that the callee makes is taken over, the callee, its arguments, the variables handed in. -/
abbrev CallF := Bool → Nat → List T → List Ob → Option (T × List Ob)

def callee : T → Option (Nat × List C × List C)
  | .one (.fn (.func f) first caps) => some (f, first, caps)
  | _ => none

/-- What is looked at: each variable, and the home of its list. -/
def keyLocs (n : Nat) : List Key → List Loc
  | [] => []
  | k :: ks => k.at :: .home (tokH n k.at) :: keyLocs n ks

/-- A variable of the frame's own lies in one of the first n homes. -/
def Key.low (n : Nat) : Key → Bool
  | .loc h _ => decide (h < n)
  | .fo _ => true

def handIn (n : Nat) (all : List Key) : List Key → List Ob → Option (List Ob)
  | [], [] => some []
  | k :: ks, o :: t :: obs => if k.fits o.g && k.low n then (handIn n all ks obs).map fun r => ⟨0, o.ty, cin all (tokH n k.at) t.g true o.cs⟩ :: r else none
  | _, _ => none

def handBack (n : Nat) (all : List Key) : List Key → List Ob → List Ob → Option (List W)
  | [], [], _ => some []
  | k :: ks, o :: t :: obs, x :: xs => if o.cs.length = x.cs.length then (handBack n all ks obs xs).map fun r =>
      .cells k.at 0 (cback all (tokH n k.at) (t.g + 1) x.cs) :: .setb (tokH n k.at) ⟨t.g + 1, 0, []⟩ :: r else none
  | _, _, _ => none

abbrev Ext := Nat → Option (List T → Option T)

/-- The keys that the variables lead to. -/
def obsKeys : List Ob → List Key
  | o :: _ :: obs => refsC.refsL o.cs ++ obsKeys obs
  | _ => []

def callEnd (call : CallF) (n : Nat) (f : Nat) (all : List T) (ks : List Key) (obs : List Ob) : Ans :=
  match handIn n ks ks obs with
  | none => none
  | some fo => match call false f (all.map (trT ks)) fo with
    | none => none
    | some (r, fo') => match handBack n ks ks obs fo' with
      | some ws => if fo'.length = ks.length then (backT ks r).map fun x => (x, ws) else none
      | none => none

def callEndA (call : CallF) (n d : Nat) (a : Ob) (f : Nat) (all : List T) (ks : List Key) (obs : List Ob) : Ans :=
  match handIn n ks ks obs with
  | none => none
  | some fo => match call true f (all.map (trT ks)) fo with
    | none => none
    | some (r, fo') => match handBack n ks ks obs fo', fo'[ks.length]? with
      | some ws, some o => match toVs o.cs with
        | some xs => if fo'.length = ks.length + 1 ∧ d < n ∧ ks.all (fun k => k.at != .home d) then (backT (ks ++ [.loc d (a.g + 1)]) r).map fun x => (x, ws ++ [.setb d ⟨a.g + 1, o.ty, xs.map .v⟩]) else none
        | none => none
      | _, _ => none

/-- Look at the variables, and at those to which these lead. -/
def gather (n : Nat) (ks : List Key) (k : List Key → List Ob → Ans) : Nat → Req
  | 0 => .done none
  | r + 1 => .rd (keyLocs n ks) fun obs =>
    let ks' := dedup (ks ++ obsKeys obs)
    if ks' = ks then .done (k ks obs) else gather n ks' k r

def callOp (ext : Ext) (call : CallF) (n : Nat) (adopt : Bool) (d : Nat) (f : T) (args : List T) : Req :=
  match callee f with
  | none => .done none
  | some (f, first, caps) =>
    let all := first.map T.one ++ args ++ caps.map T.one
    let ks := dedup (all.flatMap refsT)
    match ext f with
    | some p => .done ((p all).map fun t => (t, []))
    | none =>
      if adopt then .rd [.home d] fun
        | [a] => gather n ks (callEndA call n d a f all) 4
        | _ => .done none
      else if ks.isEmpty then .done (callEnd call n f all [] []) else gather n ks (callEnd call n f all) 4

def ones : List T → Option (List C)
  | [] => some []
  | .one .dead :: _ => none
  | .one c :: ts => (ones ts).map (c :: ·)
  | _ => none

/-! ### Operations -/

def loadC (sz : Option Nat) (cs : List C) (off : Nat) : Option T := match sz with
  | none => (cs[off]?).map .one
  | some n => if off + n ≤ cs.length then some (.agg ((cs.drop off).take n)) else none

def fillC (cells : List C) : List (Nat × Nat × List C) → Option (List C)
  | [] => some cells
  | (off, sz, cs) :: rest => if cs.length = sz ∧ off + sz ≤ cells.length then fillC (splice cells off cs) rest else none

def partsC (get : Opd → T) : List (Nat × Nat × Opd) → Option (List (Nat × Nat × List C))
  | [] => some []
  | (off, sz, x) :: r => match (get x).cellsO, partsC get r with
    | some cs, some ps => some ((off, sz, cs) :: ps)
    | _, _ => none

def rowsV (sz : Nat) : List T → Option (List (List V))
  | [] => some []
  | t :: ts => match t.toVs, rowsV sz ts with
    | some x, some xs => if x.length = sz then some (x :: xs) else none
    | _, _ => none

def sliceV (es : List (List V)) (lo hi : Option Int) : Option (List (List V)) :=
  if 0 ≤ lo.getD 0 ∧ lo.getD 0 ≤ hi.getD es.length ∧ hi.getD es.length ≤ es.length then some ((es.take (hi.getD es.length).toNat).drop (lo.getD 0).toNat) else none

def optInt : Option T → Option (Option Int)
  | none => some none
  | some t => (t.int?).map some

def chunk (sz : Nat) : Nat → List V → List (List V)
  | 0, _ => []
  | n + 1, l => l.take sz :: chunk sz n (l.drop sz)

def T.elems : T → Option (List (List V))
  | .one (.v (.s (.string s))) => some (byteCells s)
  | .one c => c.elems
  | _ => none

def okBytes (n bytes : Nat) : Bool := decide (2 * n * bytes ≤ 2 ^ 48)

/-- A list that is built whole; of no elements: one to which may be appended. -/
def bslOut : List (List V) → T
  | [] => .one .esl
  | e :: es => .one (.v (.sl (e :: es)))

/-- The answer to an operation, its operands read. -/
def act (ext : Ext) (call : CallF) (n : Nat) (o : DOper) (get : Opd → T) : Req :=
  match o.op with
  | .mv x => .done (some (get x, []))
  | .pick c a b => .done (match get c with | .one (.v (.s (.bool t))) => some (if t then get a else get b, []) | _ => none)
  | .alloc ty zs => match o.dst with
    | some d => .one (.home d) fun q => some (.one (.ref (.loc d (q.g + 1)) 0), [.setb d ⟨q.g + 1, ty, zs⟩])
    | none => .done none
  | .box ty x => match o.dst with
    | some d => .one (.home d) fun q => match (get x).cellsO with
      | none => none
      | some cs => some (.one (.ref (.loc d (q.g + 1)) 0), [.setb d ⟨q.g + 1, ty, cs⟩])
    | none => .done none
  | .build zs parts => .done (match partsC get parts with
    | none => none
    | some ps => (fillC zs ps).map fun cs => (.agg cs, []))
  | .bsl ty sz own parts => match rowsV sz (parts.map get) with
    | none => .done none
    | some es => if own then match o.dst with
        | some d => .one (.home d) fun q => some (.one (.osl (.loc d (q.g + 1)) sz 0 es.length), [.setb d ⟨q.g + 1, ty, es.flatten.map .v⟩])
        | none => .done none
      else .done (some (bslOut es, []))
  | .load sz x => match get x with
    | .one (.v (.pt cs)) => .done ((loadC sz (cs.map .v) 0).map fun t => (t, []))
    | .one (.ref k off) => .one k.at fun q => if k.fits q.g then (loadC sz q.cs off).map fun t => (t, []) else none
    | _ => .done none
  | .store sz x y => match get x, (get y).cellsO with
    | .one (.ref k off), some cs => .one k.at fun q => if k.fits q.g ∧ cs.length = sz ∧ off + sz ≤ q.cs.length then some (.one .dead, [.cells k.at off cs]) else none
    | _, _ => .done none
  | .nilck x => .done (match get x with
    | .one (.v (.pt cs)) => some (.one (.v (.pt cs)), [])
    | .one (.ref k off) => some (.one (.ref k off), [])
    | _ => none)
  | .bin op x y => .done ((bin op (get x) (get y)).map fun t => (t, []))
  | .peq neq x y => match get x, get y with
    | .one (.v (.s (.pointer none))), .one (.v (.s (.pointer none))) => .done (some (tB (!neq), []))
    | .one (.v (.pt _)), .one (.v (.s (.pointer none))) => .done (some (tB neq, []))
    | .one (.v (.s (.pointer none))), .one (.v (.pt _)) => .done (some (tB neq, []))
    | .one (.ref _ _), .one (.v (.s (.pointer none))) => .done (some (tB neq, []))
    | .one (.v (.s (.pointer none))), .one (.ref _ _) => .done (some (tB neq, []))
    | .one (.ref k o), .one (.ref k' o') => if k = k' ∧ o = o' then .one k.at fun q => if k.fits q.g && !q.cs.isEmpty then some (tB (!neq), []) else none else .done none
    | _, _ => .done none
  | .beq neq x y => .done (match get x, get y with
    | .one (.v (.s (.bool a))), .one (.v (.s (.bool b))) => some (tB (if neq then !(a == b) else a == b), [])
    | _, _ => none)
  | .pub sz x => match get x with
    | .one (.osl (.loc h g) sz' 0 len) => .one (.home h) fun q => if q.g = g ∧ sz' = sz ∧ q.cs.length = len * sz ∧ len ≠ 0 ∧ q.ty ≠ 0 ∧ sz ≠ 0 then (toVs q.cs).map fun xs => (.one (.v (.sl (chunk sz len xs))), [.setb h ⟨q.g + 1, 0, []⟩]) else none
    | _ => .done none
  | .un op x => .done ((un op (get x)).map fun t => (t, []))
  | .conv k x => .done ((conv k (get x)).map fun t => (t, []))
  | .mkfn f first caps => .done (match ones (first.map get), ones (caps.map get) with | some a, some b => some (.one (.fn f a b), []) | _, _ => none)
  | .slice true _ x lo hi _ => .done (match optInt (lo.map get), optInt (hi.map get), get x with
    | some l, some h, .one (.v (.s (.string s))) =>
      if 0 ≤ l.getD 0 ∧ l.getD 0 ≤ h.getD s.size ∧ h.getD s.size ≤ s.size then some (tS (s.extract (l.getD 0).toNat (h.getD s.size).toNat), []) else none
    | _, _, _ => none)
  | .slice false sz x lo hi mx => .done (match optInt (lo.map get), optInt (hi.map get), optInt (mx.map get) with
    | some l, some h, some none => match get x with
      | .one (.osl k sz' off len) =>
        if 0 ≤ l.getD 0 ∧ l.getD 0 ≤ h.getD len ∧ h.getD len ≤ len ∧ sz' = sz then some (.one (.osl k sz (off + (l.getD 0).toNat * sz) ((h.getD len).toNat - (l.getD 0).toNat)), []) else none
      | .one c => match c.elems with
        | some es => if es.all (·.length == sz) then (sliceV es l h).map fun r => (.one (.v (.sl r)), []) else none
        | none => none
      | _ => none
    | _, _, _ => none)
  | .faddr off x => .done (match get x with
    | .one (.v (.pt cs)) => if off ≤ cs.length then some (.one (.v (.pt (cs.drop off))), []) else none
    | .one (.ref k o) => some (.one (.ref k (o + off)), [])
    | _ => none)
  | .iaddr sz x i => .done (match get x, (get i).int? with
    | .one (.osl k sz' off len), some n => if 0 ≤ n ∧ n < len ∧ sz' = sz then some (.one (.ref k (off + n.toNat * sz)), []) else none
    | .one c, some n => match c.elems with
      | some es => if 0 ≤ n then match es[n.toNat]? with
          | some e => if e.length = sz then some (.one (.v (.pt e)), []) else none
          | none => none
        else none
      | none => none
    | _, _ => none)
  | .index x i => .done (match get x, (get i).int? with
    | .one (.v (.s (.string s))), some n => if 0 ≤ n then match s[n.toNat]? with
        | some b => some (tInt .u8 b.toNat, [])
        | none => none
      else none
    | _, _ => none)
  | .extract x i => .done (match get x with | .tup ts => (ts[i]?).map fun t => (t, []) | _ => none)
  | .call f args => callOp ext call n o.adopt (o.dst.getD 0) (get f) (args.map get)
  | .len true x => .done (match get x with
    | .one (.v (.s (.string s))) => some (tI s.size, [])
    | _ => none)
  | .len false x => .done (match get x with
    | .one (.osl _ _ _ len) => some (tI len, [])
    | .one c => match c.elems with
      | some es => some (tI es.length, [])
      | none => none
    | _ => none)
  | .append ty sz bytes own x y => match (get y).elems with
    | none => .done none
    | some ys => if ys.all (·.length == sz) then (match get x, o.dst with
      | .one .esl, some d => if ys.isEmpty then .done (some (.one .esl, [])) else
          if okBytes ys.length bytes then .one (.home d) fun q =>
            if own then some (.one (.osl (.loc d (q.g + 1)) sz 0 ys.length), [.setb d ⟨q.g + 1, 0, ys.flatten.map .v⟩])
            else some (.one (.lin d (q.g + 1) ty ys), [.setb d ⟨q.g + 1, 0, []⟩])
          else .done none
      | .one (.lin h g ty' es), some d => if ty' = ty ∧ es.all (·.length == sz) ∧ okBytes (es.length + ys.length) bytes then
          (if h = d then .one (.home d) fun q => if q.g = g then some (.one (.lin d (q.g + 1) ty (es ++ ys)), [.setb d ⟨q.g + 1, 0, []⟩]) else none
          else .two (.home h) (.home d) fun q e => if q.g = g then some (.one (.lin d (e.g + 1) ty (es ++ ys)), [.setb h ⟨q.g + 1, 0, []⟩, .setb d ⟨e.g + 1, 0, []⟩]) else none)
          else .done none
      | .one (.osl (.loc h g) sz' 0 len), some _ => if len ≠ 0 ∧ okBytes (len + ys.length) bytes then
          .one (.home h) fun q => if q.g = g ∧ sz' = sz ∧ q.cs.length = len * sz then some (.one (.osl (.loc h (q.g + 1)) sz 0 (len + ys.length)), [.setb h ⟨q.g + 1, 0, q.cs ++ ys.flatten.map .v⟩]) else none
          else .done none
      | _, _ => .done none) else .done none
  | .clear zs x => match get x with
    | .one (.osl k sz off len) => .one k.at fun q => if k.fits q.g ∧ zs.length = sz ∧ off + len * sz ≤ q.cs.length then some (.one .dead, [.cells k.at off (List.replicate len zs).flatten]) else none
    | _ => .done none
  | .pureBi b args => .done ((pureBi b (args.map get)).map fun t => (t, []))
  | .sdata x => match get x with
    | .one (.lin h g ty es) => .one (.home h) fun q => if q.g = g then some (.one (.sd h g ty es), []) else none
    | _ => .done none
  | .ustr ty x y => match get x, get y with
    | .one (.sd h g ty' es), .one (.v (.s (.int .i64 n))) => .one (.home h) fun q => if q.g = g ∧ ty' = ty ∧ n = es.length ∧ n ≤ 9223372036854775807 ∧ es.all (·.length == 1) then (bytesV es.flatten).map fun bs => (tS ⟨bs.toArray⟩, []) else none
    | _, _ => .done none
  | .pcast al x => match get x with
    | .one (.ref k off) => .one k.at fun q => if k.fits q.g ∧ (q.ty, q.cs.length, off) ∈ al then some (.one (.ref k off), []) else none
    | _ => .done none

/-- May this operation run? -/
def wants (o : DOper) (fr : Fr) : Option Bool := match o.guard with
  | none => some true
  | some (t, b) => match fr.get (.t t) with
    | .one (.v (.s (.bool b'))) => some (b' == b)
    | .tup [] => some false
    | _ => none

/-- One operation: the frame behind it, what was looked at, what was written. -/
def step (ext : Ext) (call : CallF) (o : DOper) (fr : Fr) : Option (Fr × List Loc × List W) := match wants o fr with
  | none => none
  | some false => some (putT fr o.dst (.tup []), [], [])
  | some true => match fr.ask (act ext call fr.n o fr.get) with
    | none => none
    | some (t, ws, ls) => match fr.writes ws with
      | none => none
      | some fr' => some (putT fr' o.dst t, ls, ws)

def W.loc : W → Loc
  | .cells l _ _ => l
  | .setb h _ => .home h

def apartW : W → W → Bool
  | .cells l o cs, .cells l' o' cs' => l != l' || o + cs.length ≤ o' || o' + cs'.length ≤ o
  | a, b => a.loc != b.loc

/-- Do two operations leave each other alone? -/
def apartF (a b : List Loc × List W) : Bool :=
  a.1.all (fun l => b.2.all fun w => w.loc != l) && b.1.all (fun l => a.2.all fun w => w.loc != l) && a.2.all (fun x => b.2.all (apartW x))

def run (ext : Ext) (call : CallF) : List DOper → Fr → Option (Fr × List (List Loc × List W))
  | [], fr => some (fr, [])
  | o :: os, fr => match step ext call o fr with
    | none => none
    | some (fr', f) => match run ext call os fr' with
      | none => none
      | some (fr'', fs) => some (fr'', f :: fs)

def checkBad (fs : List (List Loc × List W)) : List (Nat × Nat) → Bool
  | [] => true
  | (i, j) :: r => (match fs[i]?, fs[j]? with | some a, some b => apartF a b | _, _ => false) && checkBad fs r

inductive Ex where
  | nrm
  | exit (id : Nat)
  | goto (l : Nat)
  | ret

def findL : DCode → Nat → Option DCode
  | .seq a b, l => match findL a l with
    | some rest => some (.seq rest b)
    | none => findL b l
  | .label l', l => if l' == l then some .skip else none
  | _, _ => none

def evC (ext : Ext) (call : CallF) : Nat → DCode → Fr → Option (Ex × Fr)
  | 0, _, _ => none
  | n + 1, c, fr => match c with
    | .skip => some (.nrm, fr)
    | .label _ => some (.nrm, fr)
    | .region ops bad => match run ext call ops fr with
      | some (fr', fs) => if checkBad fs bad then some (.nrm, fr') else none
      | none => none
    | .seq a b => match evC ext call n a fr with
      | some (.nrm, fr') => evC ext call n b fr'
      | r => r
    | .cond x a b => match fr.get x with
      | .one (.v (.s (.bool t))) => evC ext call n (if t then a else b) fr
      | _ => none
    | .block id b => match evC ext call n b fr with
      | some (.exit i, fr') => if i = id then some (.nrm, fr') else some (.exit i, fr')
      | r => r
    | .loop b => match evC ext call n b fr with
      | some (.nrm, fr') => evC ext call n (.loop b) fr'
      | r => r
    | .exit id => some (.exit id, fr)
    | .goto l => some (.goto l, fr)
    | .bad => none
    | .ret => some (.ret, fr)
    | .scope b => evC ext call n (.sc b b) fr
    | .sc b c => match evC ext call n c fr with
      | some (.goto l, fr') => match findL b l with
        | some rest => evC ext call n (.sc b rest) fr'
        | none => some (.goto l, fr')
      | r => r

/-! ### Functions -/

/-- A result's cell as it leaves the function. -/
def outC (fr : Fr) : C → Option C
  | .v x => some (.v x)
  | .esl => some (.v (.sl []))
  | .lin _ _ _ es => some (.v (.sl es))
  | .ref (.fo i) off => some (.ref (.fo i) off)
  | .osl (.fo i) sz off len => some (.osl (.fo i) sz off len)
  | .ref (.loc h g) off => match fr.bx[h]? with
    | some o => if o.g = g then (toVs (o.cs.drop off)).map fun xs => .v (.pt xs) else none
    | none => none
  | .osl (.loc h g) sz off len => match fr.bx[h]? with
    | some o => if o.g = g ∧ off + len * sz ≤ o.cs.length then (toVs (o.cs.drop off)).map fun xs => .v (.sl (chunk sz len xs)) else none
    | none => none
  | _ => none

/-- The same, where the list that the function made itself is handed over (as variable m). -/
def outA (m h g : Nat) : C → Option C
  | .v x => some (.v x)
  | .esl => some (.v (.sl []))
  | .lin _ _ _ es => some (.v (.sl es))
  | .ref (.fo i) off => some (.ref (.fo i) off)
  | .osl (.fo i) sz off len => some (.osl (.fo i) sz off len)
  | .osl (.loc h' g') sz off len => if h' = h ∧ g' = g then some (.osl (.fo m) sz off len) else none
  | _ => none

def outL (f : C → Option C) : List C → Option (List C)
  | [] => some []
  | c :: cs => match f c, outL f cs with
    | some x, some xs => some (x :: xs)
    | _, _ => none

def outT (f : C → Option C) : T → Option T
  | .one c => (f c).map .one
  | .agg cs => (outL f cs).map .agg
  | .tup _ => none

def outTs (f : C → Option C) : List T → Option (List T)
  | [] => some []
  | t :: ts => match outT f t, outTs f ts with
    | some x, some xs => some (x :: xs)
    | _, _ => none

/-- The lists of the frame's own that the results name. -/
def ownC : C → List (Nat × Nat)
  | .osl (.loc h g) _ _ _ => [(h, g)]
  | _ => []

/-- The cells of a variable that was handed in, as they go back: a list that the frame may go on with goes back with its right, one for each variable, each home once. -/
def cout (fr : Fr) : Bool → List Nat → List C → List C × List Nat
  | _, used, [] => ([], used)
  | b, used, .lin h g ty es :: cs => match fr.bx[h]? with
    | some o => if b ∧ o.g = g ∧ h ∉ used then
        let r := cout fr false (h :: used) cs
        (.own ty es :: r.1, r.2)
      else
        let r := cout fr b used cs
        (.v (.sl es) :: r.1, r.2)
    | none =>
      let r := cout fr b used cs
      (.v (.sl es) :: r.1, r.2)
  | b, used, c :: cs =>
    let r := cout fr b used cs
    ((match c with
      | .v x => .v x
      | .esl => .esl
      | .ref (.fo i) off => .ref (.fo i) off
      | .osl (.fo i) sz off len => .osl (.fo i) sz off len
      | _ => .dead) :: r.1, r.2)

def couts (fr : Fr) : List Nat → List Ob → List Ob
  | _, [] => []
  | used, o :: os => { o with cs := (cout fr true used o.cs).1 } :: couts fr (cout fr true used o.cs).2 os

def getRes (fr : Fr) : DRes → Option T
  | .t n => fr.tm[n]?
  | .cell n sz => match fr.tm[n]? with
    | some (.one (.ref (.loc h g) off)) => match fr.bx[h]? with
      | some o => if o.g = g then loadC sz o.cs off else none
      | none => none
    | _ => none

def getAll (fr : Fr) : List DRes → Option (List T)
  | [] => some []
  | r :: rs => match getRes fr r, getAll fr rs with
    | some x, some xs => some (x :: xs)
    | _, _ => none

def pack : List T → T
  | [t] => t
  | ts => .tup ts

def finish (adopt : Bool) (fr : Fr) (rs : List T) : Option (T × List Ob) :=
  if adopt then match rs.flatMap (fun t => t.cells.flatMap ownC) with
    | [(h, g)] => match fr.bx[h]? with
      | some o => if o.g = g then match toVs o.cs, outTs (outA fr.fo.length h g) rs with
          | some xs, some rs' => some (pack rs', couts fr [] fr.fo ++ [⟨0, 0, xs.map .v⟩])
          | _, _ => none
        else none
      | none => none
    | [] => (outTs (outC fr) rs).map fun rs' => (pack rs', couts fr [] fr.fo ++ [⟨0, 0, []⟩])
    | _ => none
  else (outTs (outC fr) rs).map fun rs' => (pack rs', couts fr [] fr.fo)

/-- A list that comes in with its right. -/
def enterO (h : Nat) : List C → List C
  | [] => []
  | .own ty es :: cs => .lin h 0 ty es :: enterO h cs
  | c :: cs => c :: enterO h cs

def enterF (n : Nat) : Nat → List Ob → List Ob
  | _, [] => []
  | i, o :: os => ⟨0, o.ty, enterO (2 * n + i) o.cs⟩ :: enterF n (i + 1) os

def enter (d : DFn) (args : List T) (fo : List Ob) : Fr :=
  { n := d.ntmps, tm := args ++ List.replicate (d.ntmps - args.length) (.one .dead), bx := List.replicate (2 * d.ntmps + fo.length) ⟨0, 0, []⟩, fo := enterF d.ntmps 0 fo }

structure Env where
  fns : Nat → Option DFn
  ext : Ext
  prim : Nat → Option (Bool → List T → List Ob → Option (T × List Ob))

def evF (E : Env) : Nat → CallF
  | 0 => fun _ _ _ _ => none
  | n + 1 => fun ad f args fo => match E.prim f with
    | some p => p ad args fo
    | none => match E.fns f with
      | none => none
      | some d => match evC E.ext (evF E n) n d.body (enter d args fo) with
        | some (.nrm, fr) | some (.ret, fr) => match getAll fr d.res with
          | some rs => finish ad fr rs
          | none => none
        | _ => none

end Go.Dev

/- The loaded program's code as the evaluator reads it. Definitions alone. -/
namespace Go.Dev
open Go

/-- What the set-up chooses: lists that a frame makes and may write into, calls whose list is taken over, where a Builder may lie. -/
structure Pol where
  own : List Nat
  adopt : List Nat
  cast : List (Nat × Nat × Nat)

def constC : Value → Option C
  | .slice none 0 0 => some .esl
  | .pointer none => some (.v (.s (.pointer none)))
  | .bool b => some (.v (.s (.bool b)))
  | .int k n => some (.v (.s (.int k n)))
  | .float k n => some (.v (.s (.float k n)))
  | .complex k a b => some (.v (.s (.complex k a b)))
  | .string s => some (.v (.s (.string s)))
  | .nilFunc => some (.v (.s .nilFunc))
  | .nilIface => some (.v (.s .nilIface))
  | _ => none

def allC : List Value → Option (List C)
  | [] => some []
  | v :: vs => match constC v, allC vs with
    | some c, some cs => some (c :: cs)
    | _, _ => none

def constT : Value → Option T
  | .agg cs => (allC cs.toList).map .agg
  | v => (constC v).map .one

def cOpd : Operand → Option Opd
  | .tmp n => some (.t n)
  | .const v => (constT v).map .c
  | .func f => some (.c (.one (.fn (.func f) [] [])))
  | .global _ => some (.c (.one .dead))

def cOpds : List Operand → Option (List Opd)
  | [] => some []
  | x :: xs => match cOpd x, cOpds xs with
    | some y, some ys => some (y :: ys)
    | _, _ => none

def cOptOpd : Option Operand → Option (Option Opd)
  | none => some none
  | some x => (cOpd x).map some

variable (P : Program)

/-- The zero cells of a type, if there are as many as it has. -/
def zeroC (t : TypeId) : Option (List C) := match P.info? t with
  | some i => match i.zero with
    | some z => if z.cells.size = i.size then allC z.cells.toList else none
    | none => none
  | none => none

def isAggT (t : TypeId) : Bool := match P.underlying t with
  | some (.struct _) | some (.array _ _) => true
  | _ => false

def szO (t : TypeId) : Option (Option Nat) := match P.underlying t, P.info? t with
  | some _, some i => some (if isAggT P t then some i.size else none)
  | _, _ => none

def sliceE (t : TypeId) : Option (TypeId × TypeInfo) := match P.underlying t with
  | some (.slice e) => (P.info? e).map fun i => (e, i)
  | _ => none

def cParts (fs : Array Field) : List (Nat × Operand) → Option (List (Nat × Nat × Opd))
  | [] => some []
  | (i, x) :: r => match fs[i]?, cOpd x, cParts fs r with
    | some f, some y, some ys => (P.info? f.type).map fun q => (f.offset, q.size, y) :: ys
    | _, _, _ => none

def cRow : Nat → List (Nat × Operand) → Option (List Opd)
  | _, [] => some []
  | n, (i, x) :: r => if i = n then match cOpd x, cRow (n + 1) r with
      | some y, some ys => some (y :: ys)
      | _, _ => none
    else none

def cBin (op : BinOp) (t : TypeId) : Bool := match P.underlying t with
  | some (.int _) | some (.float _) | some (.complex _) | some .string => true
  | _ => false

/-- A comparison of pointers to something that has size. -/
def cPeq (op : BinOp) (t : TypeId) : Option Bool := match P.underlying t with
  | some (.pointer e) => if (P.info? e).isSome ∧ P.cellsOf e ≠ 0 then (match op with | .eql => some false | .neq => some true | _ => none) else none
  | _ => none

def cConv (pol : Pol) (s d : TypeId) (x : Opd) : Option DOp := match P.underlying s, P.underlying d with
  | some (.int _), some (.int k) => some (.conv (.toInt k) x)
  | some (.float _), some (.int k) => some (.conv (.toInt k) x)
  | some (.int _), some (.float k) => some (.conv (.toFloat k) x)
  | some (.slice e), some .string => match P.underlying e with
    | some (.int .u8) => some (.conv .bytesToStr x)
    | _ => none
  | some (.pointer t), some .unsafePointer => if P.cellsOf t ≠ 0 ∧ (P.info? t).isSome ∧ pol.cast.all (fun a => a.2.2 < a.2.1 && a.1 != 0) then some (.pcast pol.cast x) else none
  | some .unsafePointer, some (.pointer u) => if P.cellsOf u ≠ 0 ∧ (P.info? u).isSome ∧ pol.cast.all (fun a => liesAt P P.depth a.1 (a.2.1 / P.cellsOf a.1) a.2.2 u 1 && a.2.2 < a.2.1 && a.1 != 0) then some (.pcast pol.cast x) else none
  | some (.slice _), some (.slice e) => if s == d ∧ P.underlying e matches some (.int .u8) then (P.info? e).map fun i => .pub i.size x else none
  | _, _ => none

def cCall (pol : Pol) (d : Option Nat) (c : Call) : Option DOp := match cOpds c.args.toList with
  | none => none
  | some args => match c.callee with
    | .value f => (cOpd f).map fun f => .call f args
    | .invoke _ _ => none
    | .builtin b => match b, c.argTypes.toList, args with
      | .len, [t], [x] => match P.underlying t with
        | some .string => some (.len true x)
        | some (.slice _) => some (.len false x)
        | _ => none
      | .append, [t, u], [x, y] => match sliceE P t, P.underlying u with
        | some (e, i), some (.slice _) | some (e, i), some .string => match i.zero with
          | some z => if z.cells.size = i.size ∧ i.size ≠ 0 ∧ i.bytes ≠ 0 then some (.append e i.size i.bytes (d.any pol.own.contains) x y) else none
          | none => none
        | _, _ => none
      | .clear, [t], [x] => match sliceE P t with
        | some (e, i) => if i.size ≠ 0 then (zeroC P e).map fun zs => .clear zs x else none
        | none => none
      | .real, _, [x] => some (.pureBi .real [x])
      | .imag, _, [x] => some (.pureBi .imag [x])
      | .complex, _, [x, y] => some (.pureBi .complex [x, y])
      | .min, _, [x, y] => some (.pureBi .min [x, y])
      | .max, _, [x, y] => some (.pureBi .max [x, y])
      | .unsafeSliceData, _, [x] => some (.sdata x)
      | .unsafeString, [t, _], [x, y] => match P.underlying t with
        | some (.pointer e) => if P.cellsOf e = 1 ∧ P.depth ≠ 0 then some (.ustr e x y) else none
        | _ => none
      | _, _, _ => none

def cOp (pol : Pol) (o : Oper) : Option DOp := match o.op with
  | .move x => (cOpd x).map .mv
  | .assign x => (cOpd x).map .mv
  | .pick c a b => match cOpd c, cOpd a, cOpd b with
    | some c, some a, some b => some (.pick c a b)
    | _, _, _ => none
  | .alloc t => (zeroC P t).map fun zs => .alloc t zs
  | .box t x => (cOpd x).map fun x => .box t x
  | .build t ps => match P.underlying t, zeroC P t with
    | some (.struct fs), some zs => if fs.toList.all (fun f => (P.info? f.type).isSome) then (cParts P fs ps.toList).map fun ps => .build zs ps else none
    | _, _ => none
  | .buildSlice t n ps => match sliceE P t, cRow 0 ps.toList with
    | some (e, i), some xs => if xs.length = n ∧ i.size ≠ 0 ∧ n * i.size ≤ 2 ^ 24 ∧ (zeroC P e).isSome then some (.bsl e i.size (o.dst.any pol.own.contains) xs) else none
    | _, _ => none
  | .load t x => match szO P t, cOpd x with
    | some sz, some x => if sz ≠ some 0 then some (.load sz x) else none
    | _, _ => none
  | .store t x y => match P.info? t, cOpd x, cOpd y with
    | some i, some x, some y => if i.size ≠ 0 then some (.store i.size x y) else none
    | _, _, _ => none
  | .nilCheck x => (cOpd x).map .nilck
  | .binOp op t x y _ => match cOpd x, cOpd y with
    | some x, some y => if cBin P op t then some (.bin op x y) else if P.underlying t matches some .bool then (match op with | .eql => some (.beq false x y) | .neq => some (.beq true x y) | _ => none) else (cPeq P op t).map fun b => .peq b x y
    | _, _ => none
  | .unOp op _ x => (cOpd x).map fun x => .un op x
  | .convert s d x => match cOpd x with
    | some x => cConv P pol s d x
    | none => none
  | .makeFunc fn a b => match cOpds a.toList, cOpds b.toList with
    | some a, some b => some (.mkfn fn a b)
    | _, _ => none
  | .slice t x lo hi mx => match cOpd x, cOptOpd lo, cOptOpd hi, cOptOpd mx with
    | some x, some lo, some hi, some mx => match P.underlying t with
      | some .string => if mx.isNone then some (.slice true 1 x lo hi none) else none
      | some (.slice e) => (P.info? e).map fun i => .slice false i.size x lo hi mx
      | _ => none
    | _, _, _, _ => none
  | .fieldAddr t x f => match P.underlying t, cOpd x with
    | some (.struct fs), some x => match fs[f]? with
      | some fd => match P.info? fd.type with
        | some i => if i.size ≠ 0 then some (.faddr fd.offset x) else none
        | none => none
      | none => none
    | _, _ => none
  | .indexAddr t x i => match sliceE P t, cOpd x, cOpd i with
    | some (_, q), some x, some i => if q.size ≠ 0 then some (.iaddr q.size x i) else none
    | _, _, _ => none
  | .index t x i => match P.underlying t, cOpd x, cOpd i with
    | some .string, some x, some i => some (.index x i)
    | _, _, _ => none
  | .extract x i => (cOpd x).map fun x => .extract x i
  | .call c => cCall P pol o.dst c
  | _ => none

def cOper (pol : Pol) (ops : Array Oper) (o : Oper) : Option DOper := match cOp P pol o with
  | none => none
  | some op =>
    let ad := o.dst.any pol.adopt.contains
    match o.guard with
    | none => some ⟨o.dst, op, none, ad⟩
    | some (j, b) => match (ops[j]?).bind (·.dst) with
      | some d => some ⟨o.dst, op, some (d, b), ad⟩
      | none => none

def cOpers (pol : Pol) (ops : Array Oper) : List Oper → Option (List DOper)
  | [] => some []
  | o :: os => match cOper P pol ops o, cOpers pol ops os with
    | some x, some xs => some (x :: xs)
    | _, _ => none

/-! ### Regions that draw -/

def opdT : Opd → List Nat
  | .t n => [n]
  | .c _ => []

def DOp.opds : DOp → List Opd
  | .mv x | .box _ x | .load _ x | .nilck x | .un _ x | .conv _ x | .faddr _ x | .extract x _ | .len _ x | .clear _ x | .pcast _ x | .pub _ x | .sdata x => [x]
  | .store _ x y | .bin _ x y | .peq _ x y | .beq _ x y | .ustr _ x y | .iaddr _ x y | .index x y | .append _ _ _ _ x y => [x, y]
  | .pick a b c => [a, b, c]
  | .alloc _ _ => []
  | .build _ ps => ps.map (·.2.2)
  | .bsl _ _ _ xs => xs
  | .mkfn _ a b => a ++ b
  | .slice _ _ x a b c => x :: (a.toList ++ b.toList ++ c.toList)
  | .call f as => f :: as
  | .pureBi _ as => as

/-- The temporaries that an operation reads. -/
def DOper.reads (o : DOper) : List Nat := (match o.guard with | some (d, _) => [d] | none => []) ++ o.op.opds.flatMap opdT

def apartD (x y : DOper) : Bool :=
  (match x.dst with | some d => !y.reads.contains d && y.dst != some d | none => true) &&
  (match y.dst with | some d => !x.reads.contains d | none => true)

/-- 0: touches no variable, 1: only looks, 2: may write. -/
def DOp.mem : DOp → Nat
  | .alloc _ _ | .box _ _ | .store _ _ _ | .call _ _ | .append _ _ _ _ _ _ | .clear _ _ | .pub _ _ => 2
  | .bsl _ _ own _ => if own then 2 else 0
  | .load _ _ | .pcast _ _ | .peq _ _ _ | .sdata _ | .ustr _ _ _ => 1
  | _ => 0

/-- Behind which operations each one stands, in whatever order is drawn. -/
def ancs (ops : List Oper) : List (List Nat) :=
  ops.foldl (fun acc o => acc ++ [o.after.toList.foldl (fun s e => if Region.binds .any e then (acc.getD e.on []).foldl (fun s i => if i ∈ s then s else i :: s) (if e.on ∈ s then s else e.on :: s) else s) []]) []

def pairs (n : Nat) : List (Nat × Nat) := (List.range n).flatMap fun j => (List.range j).map fun i => (i, j)

def loose (an : List (List Nat)) (n : Nat) : List (Nat × Nat) := (pairs n).filter fun p => !(an.getD p.2 []).contains p.1

def mayMeet (ds : List DOper) (p : Nat × Nat) : Bool := match ds[p.1]?, ds[p.2]? with
  | some x, some y => (x.op.mem == 2 && y.op.mem != 0) || (x.op.mem != 0 && y.op.mem == 2)
  | _, _ => true

def looseOk (ds : List DOper) (p : Nat × Nat) : Bool := match ds[p.1]?, ds[p.2]? with
  | some x, some y => apartD x y
  | _, _ => false

def edgesOk : Nat → List Oper → Bool
  | _, [] => true
  | n, o :: os => o.after.all (fun e => !Region.binds .any e || e.on < n) && edgesOk (n + 1) os

def cRegion (pol : Pol) (ops : Array Oper) (draw : Bool) : Option DCode := match cOpers P pol ops ops.toList with
  | none => none
  | some ds => if draw then
      let l := loose (ancs ops.toList) ds.length
      if edgesOk 0 ops.toList && l.all (looseOk ds) then some (.region ds (l.filter (mayMeet ds))) else none
    else some (.region ds [])

def cC (pol : Pol) : Code → Option DCode
  | .skip => some .skip
  | .region _ ops draw => cRegion P pol ops draw
  | .seq a b => match cC pol a, cC pol b with
    | some a, some b => some (.seq a b)
    | _, _ => none
  | .cond c a b => match cOpd c, cC pol a, cC pol b with
    | some c, some a, some b => some (.cond c a b)
    | _, _, _ => none
  | .block i c => (cC pol c).map fun c => .block i c
  | .loop c => (cC pol c).map .loop
  | .exit i => some (.exit i)
  | .scope c => (cC pol c).map .scope
  | .label l => some (.label l)
  | .goto l => some (.goto l)
  | .ret => some .ret
  | .refuse _ => some .bad
  | .rangeFunc _ _ _ _ => none

def cRes : List ResultVar → Option (List DRes)
  | [] => some []
  | .tmp t :: r => (cRes r).map (.t t :: ·)
  | .cell a t :: r => match szO P t, cRes r with
    | some sz, some rs => some (.cell a sz :: rs)
    | _, _ => none

def cFn (pol : Pol) (f : Func) : Option DFn := match f.body with
  | some c => match cC P pol c, cRes P f.results.toList with
    | some b, some rs => some ⟨f.ntmps, rs, b⟩
    | _, _ => none
  | none => none

end Go.Dev

/- How a frame of the evaluator stands to a frame of the machine. -/
namespace Go.Dev
open Go

inductive Ow where
  | no
  | home (h : Nat)
  | fo (i : Nat)
  deriving DecidableEq

/-- What is known of the machine's memory beside it: the block of each home, of each variable handed in; how many cells of a block may be looked at; whose it is. -/
structure Gh where
  β : Nat → Nat
  φ : Nat → Nat
  G : Nat → Nat
  ow : Nat → Ow

structure Cx where
  w : World
  gh : Gh
  gen : Nat → Nat
  nfo : Nat

def flat (v : Value) : Prop := v.oneCell' = true

mutual
def RelV (w : World) (G : Nat → Nat) : V → Value → Prop
  | .s x, v => v = x ∧ flat v
  | .pt cs, v => ∃ b o, v = .pointer (some ⟨b, o, none⟩) ∧ RelRow w G b o cs
  | .sl es, v => ∃ A len cap sz, v = .slice A len cap ∧ len = es.length ∧ len ≤ cap ∧ (es = [] ∨ ∃ b o, A = some ⟨b, o, none⟩ ∧ RelRows w G sz b o es)
def RelRow (w : World) (G : Nat → Nat) : Nat → Nat → List V → Prop
  | _, _, [] => True
  | b, o, c :: cs => (∃ v, o < G b ∧ w.cell? ⟨b, o, none⟩ = some v ∧ RelV w G c v) ∧ RelRow w G b (o + 1) cs
def RelRows (w : World) (G : Nat → Nat) : Nat → Nat → Nat → List (List V) → Prop
  | _, _, _, [] => True
  | sz, b, o, e :: es => e.length = sz ∧ RelRow w G b o e ∧ RelRows w G sz b (o + sz) es
end

/-- What may be looked at stays, and more may be looked at. -/
def RdLe (w : World) (G : Nat → Nat) (w' : World) (G' : Nat → Nat) : Prop :=
  ∀ b o v, o < G b → w.cell? ⟨b, o, none⟩ = some v → o < G' b ∧ w'.cell? ⟨b, o, none⟩ = some v

theorem RdLe.refl (w : World) (G : Nat → Nat) : RdLe w G w G := fun _ _ _ h k => ⟨h, k⟩
theorem RdLe.trans {w w' w'' : World} {G G' G'' : Nat → Nat} (h : RdLe w G w' G') (k : RdLe w' G' w'' G'') : RdLe w G w'' G'' :=
  fun b o v h1 h2 => let ⟨a, c⟩ := h b o v h1 h2; k b o v a c

mutual
theorem RelV.mono {w w' : World} {G G' : Nat → Nat} (H : RdLe w G w' G') : ∀ (x : V) (v : Value), RelV w G x v → RelV w' G' x v
  | .s x, v, h => by simpa [RelV] using h
  | .pt cs, v, h => by
    simp only [RelV] at h ⊢
    obtain ⟨b, o, e, r⟩ := h
    exact ⟨b, o, e, RelRow.mono H cs b o r⟩
  | .sl es, v, h => by
    simp only [RelV] at h ⊢
    obtain ⟨A, len, cap, sz, e, e1, e2, r⟩ := h
    refine ⟨A, len, cap, sz, e, e1, e2, ?_⟩
    rcases r with r | ⟨b, o, ea, r⟩
    · exact .inl r
    · exact .inr ⟨b, o, ea, RelRows.mono H es sz b o r⟩
theorem RelRow.mono {w w' : World} {G G' : Nat → Nat} (H : RdLe w G w' G') : ∀ (cs : List V) (b o : Nat), RelRow w G b o cs → RelRow w' G' b o cs
  | [], _, _, _ => by simp [RelRow]
  | c :: cs, b, o, h => by
    simp only [RelRow] at h ⊢
    obtain ⟨⟨v, h1, h2, h3⟩, h4⟩ := h
    obtain ⟨h5, h6⟩ := H b o v h1 h2
    exact ⟨⟨v, h5, h6, RelV.mono H c v h3⟩, RelRow.mono H cs b (o + 1) h4⟩
theorem RelRows.mono {w w' : World} {G G' : Nat → Nat} (H : RdLe w G w' G') : ∀ (es : List (List V)) (sz b o : Nat), RelRows w G sz b o es → RelRows w' G' sz b o es
  | [], _, _, _, _ => by simp [RelRows]
  | e :: es, sz, b, o, h => by
    simp only [RelRows] at h ⊢
    exact ⟨h.1, RelRow.mono H e b o h.2.1, RelRows.mono H es sz b (o + sz) h.2.2⟩
end

theorem RelV.flat {w : World} {G : Nat → Nat} : ∀ {x : V} {v : Value}, RelV w G x v → flat v
  | .s _, _, h => by simp only [RelV] at h; exact h.2
  | .pt _, _, h => by simp only [RelV] at h; obtain ⟨b, o, rfl, _⟩ := h; rfl
  | .sl _, _, h => by simp only [RelV] at h; obtain ⟨A, len, cap, sz, rfl, _⟩ := h; rfl

/-! ### Rows -/

theorem RelRow.at {w : World} {G : Nat → Nat} : ∀ {cs : List V} {b o : Nat}, RelRow w G b o cs → ∀ {i : Nat} {c : V}, cs[i]? = some c → ∃ v, o + i < G b ∧ w.cell? ⟨b, o + i, none⟩ = some v ∧ RelV w G c v
  | [], _, _, _, i, c, hc => by simp at hc
  | x :: cs, b, o, h, i, c, hc => by
    simp only [RelRow] at h
    cases i with
    | zero => simp at hc; subst hc; simpa using h.1
    | succ i =>
      have := RelRow.at h.2 (i := i) (c := c) (by simpa using hc)
      rw [show o + 1 + i = o + (i + 1) by omega] at this
      exact this

theorem RelRow.mk {w : World} {G : Nat → Nat} : ∀ {cs : List V} {b o : Nat}, (∀ i c, cs[i]? = some c → ∃ v, o + i < G b ∧ w.cell? ⟨b, o + i, none⟩ = some v ∧ RelV w G c v) → RelRow w G b o cs
  | [], _, _, _ => by simp [RelRow]
  | c :: cs, b, o, h => by
    simp only [RelRow]
    refine ⟨by simpa using h 0 c rfl, RelRow.mk fun i x hx => ?_⟩
    have := h (i + 1) x (by simpa using hx)
    rw [show o + 1 + i = o + (i + 1) by omega]
    exact this

theorem RelRow.drop {w : World} {G : Nat → Nat} {cs : List V} {b o n : Nat} (h : RelRow w G b o cs) : RelRow w G b (o + n) (cs.drop n) :=
  RelRow.mk fun i c hc => by
    have := h.at (i := n + i) (c := c) (by simpa using hc)
    rw [show o + n + i = o + (n + i) by omega]
    exact this

theorem RelRow.take {w : World} {G : Nat → Nat} {cs : List V} {b o n : Nat} (h : RelRow w G b o cs) : RelRow w G b o (cs.take n) :=
  RelRow.mk fun i c hc => h.at (by rw [List.getElem?_take] at hc; split at hc <;> first | exact hc | cases hc)

theorem RelRow.append {w : World} {G : Nat → Nat} {cs ds : List V} {b o : Nat} (h : RelRow w G b o cs) (k : RelRow w G b (o + cs.length) ds) : RelRow w G b o (cs ++ ds) :=
  RelRow.mk fun i c hc => by
    rcases Nat.lt_or_ge i cs.length with hl | hl
    · exact h.at (by rwa [List.getElem?_append_left hl] at hc)
    · rw [List.getElem?_append_right hl] at hc
      have := k.at hc
      rw [show o + cs.length + (i - cs.length) = o + i by omega] at this
      exact this

theorem RelRows.flat {w : World} {G : Nat → Nat} : ∀ {es : List (List V)} {sz b o : Nat}, RelRows w G sz b o es → RelRow w G b o es.flatten ∧ es.flatten.length = es.length * sz ∧ ∀ e ∈ es, e.length = sz
  | [], _, _, _, _ => by simp [RelRow]
  | e :: es, sz, b, o, h => by
    simp only [RelRows] at h
    obtain ⟨h1, h2, h3⟩ := h
    obtain ⟨k1, k2, k3⟩ := RelRows.flat h3
    refine ⟨?_, ?_, ?_⟩
    · simp only [List.flatten_cons]
      exact h2.append (by rw [h1]; exact k1)
    · simp only [List.flatten_cons, List.length_append, List.length_cons, k2, h1]; rw [Nat.add_mul]; omega
    · intro x hx; rcases List.mem_cons.1 hx with rfl | hx
      · exact h1
      · exact k3 x hx

theorem RelRows.mk {w : World} {G : Nat → Nat} : ∀ {es : List (List V)} {sz b o : Nat}, (∀ e ∈ es, e.length = sz) → RelRow w G b o es.flatten → RelRows w G sz b o es
  | [], _, _, _, _, _ => by simp [RelRows]
  | e :: es, sz, b, o, h, k => by
    simp only [RelRows]
    have he : e.length = sz := h e (by simp)
    simp only [List.flatten_cons] at k
    refine ⟨he, by have := k.take (n := e.length); simpa using this, RelRows.mk (fun x hx => h x (by simp [hx])) ?_⟩
    have := k.drop (n := e.length)
    simpa [he] using this

theorem RelRows.at {w : World} {G : Nat → Nat} : ∀ {es : List (List V)} {sz b o : Nat}, RelRows w G sz b o es → ∀ {i : Nat} {e : List V}, es[i]? = some e → e.length = sz ∧ RelRow w G b (o + i * sz) e
  | [], _, _, _, _, i, e, he => by simp at he
  | x :: es, sz, b, o, h, i, e, he => by
    simp only [RelRows] at h
    cases i with
    | zero => simp at he; subst he; simpa using ⟨h.1, h.2.1⟩
    | succ i =>
      have := RelRows.at h.2.2 (i := i) (e := e) (by simpa using he)
      rw [show o + sz + i * sz = o + (i + 1) * sz by rw [Nat.add_mul]; omega] at this
      exact this

/-! ### Cells -/

def Key.le (c : Cx) : Key → Prop
  | .loc h g => g ≤ c.gen h
  | .fo i => i < c.nfo

def Key.ok (c : Cx) : Key → Prop
  | .loc h g => g = c.gen h
  | .fo _ => True

def Key.blk (gh : Gh) : Key → Nat
  | .loc h _ => gh.β h
  | .fo i => gh.φ i

/-- The list that a home's right goes with: it ends where nothing more may be looked at. -/
def Tip (c : Cx) (h ty : Nat) (es : List (List V)) (v : Value) : Prop :=
  ∃ o len cap arr fz sz, v = .slice (some ⟨c.gh.β h, o, none⟩) len cap ∧ es ≠ [] ∧ (∀ e ∈ es, e.length = sz) ∧ 0 < sz ∧ len = es.length ∧ len ≤ cap ∧ c.gh.G (c.gh.β h) = o + len * sz ∧
    c.w.heap[c.gh.β h]? = some (.cells arr ty fz) ∧ o + cap * sz ≤ arr.size ∧ fz.2 ≤ o + len * sz ∧ c.gh.ow (c.gh.β h) = .home h

mutual
def RelC (c : Cx) : C → Value → Prop
  | .v x, v => RelV c.w c.gh.G x v
  | .esl, v => ∃ A, v = .slice A 0 0
  | .lin h g ty es, v => RelV c.w c.gh.G (.sl es) v ∧ g ≤ c.gen h ∧ (g = c.gen h → Tip c h ty es v)
  | .osl k sz off len, v => k.le c ∧ ∃ A cap, v = .slice A len cap ∧ len ≤ cap ∧ (0 < len → ∃ b arr ty fz, A = some ⟨b, off, none⟩ ∧ c.w.heap[b]? = some (.cells arr ty fz) ∧ off + cap * sz ≤ arr.size ∧ (k.ok c → b = k.blk c.gh))
  | .ref k off, v => k.le c ∧ ∃ b, v = .pointer (some ⟨b, off, none⟩) ∧ (k.ok c → b = k.blk c.gh)
  | .fn f a b, v => ∃ fa fb, v = .func f ⟨fa⟩ ⟨fb⟩ ∧ RelCs c a fa ∧ RelCs c b fb
  | .own _ _, v => flat v
  | .sd h g ty es, v => flat v ∧ g ≤ c.gen h ∧ (g = c.gen h → ∃ A cap, v = .pointer A ∧ Tip c h ty es (.slice A es.length cap) ∧ RelV c.w c.gh.G (.sl es) (.slice A es.length cap))
  | .dead, v => flat v
def RelCs (c : Cx) : List C → List Value → Prop
  | [], [] => True
  | x :: xs, v :: vs => RelC c x v ∧ RelCs c xs vs
  | _, _ => False
end

mutual
def RelT (c : Cx) : T → Value → Prop
  | .one .dead, _ => True
  | .one x, v => RelC c x v
  | .agg cs, v => ∃ arr, v = .agg ⟨arr⟩ ∧ RelCs c cs arr
  | .tup ts, v => ∃ arr, v = .tuple ⟨arr⟩ ∧ RelTs c ts arr
def RelTs (c : Cx) : List T → List Value → Prop
  | [], [] => True
  | x :: xs, v :: vs => RelT c x v ∧ RelTs c xs vs
  | _, _ => False
end

/-- A later state of the memory. -/
structure CxLe (c c' : Cx) : Prop where
  rd : RdLe c.w c.gh.G c'.w c'.gh.G
  size : ∀ (b : Nat) (arr : Array Value) (ty : Nat) (fz : Nat × Nat), c.w.heap[b]? = some (.cells arr ty fz) → ∃ arr' fz', c'.w.heap[b]? = some (.cells arr' ty fz') ∧ arr'.size = arr.size
  gen : ∀ h, c.gen h ≤ c'.gen h
  home : ∀ h, c.gen h = c'.gen h → c'.gh.β h = c.gh.β h
  tip : ∀ (h : Nat) (arr : Array Value) (ty : Nat) (fz : Nat × Nat), c.gen h = c'.gen h → 0 < c.gh.G (c.gh.β h) → c.gh.ow (c.gh.β h) = .home h → c.w.heap[c.gh.β h]? = some (.cells arr ty fz) →
    c'.gh.G (c.gh.β h) = c.gh.G (c.gh.β h) ∧ c'.gh.ow (c.gh.β h) = .home h ∧ ∃ arr' fz', c'.w.heap[c.gh.β h]? = some (.cells arr' ty fz') ∧ arr'.size = arr.size ∧ (fz.2 ≤ c.gh.G (c.gh.β h) → fz'.2 ≤ c.gh.G (c.gh.β h))
  fo : ∀ i, i < c.nfo → c'.gh.φ i = c.gh.φ i
  nfo : c.nfo ≤ c'.nfo

theorem CxLe.refl (c : Cx) : CxLe c c := ⟨RdLe.refl _ _, fun _ arr _ fz h => ⟨arr, fz, h, rfl⟩, fun _ => Nat.le_refl _, fun _ _ => rfl, fun _ arr _ fz _ _ h3 h4 => ⟨rfl, h3, arr, fz, h4, rfl, id⟩, fun _ _ => rfl, Nat.le_refl _⟩

theorem CxLe.trans {a b c : Cx} (H : CxLe a b) (K : CxLe b c) : CxLe a c where
  rd := H.rd.trans K.rd
  size := fun i arr ty fz h => by
    obtain ⟨arr', fz', h1, h2⟩ := H.size i arr ty fz h
    obtain ⟨arr'', fz'', h3, h4⟩ := K.size i arr' ty fz' h1
    exact ⟨arr'', fz'', h3, by omega⟩
  gen := fun h => Nat.le_trans (H.gen h) (K.gen h)
  home := fun h e => by
    have h1 := H.gen h
    have h2 := K.gen h
    rw [K.home h (by omega), H.home h (by omega)]
  tip := fun h arr ty fz e p o r => by
    have h1 := H.gen h
    have h2 := K.gen h
    obtain ⟨k1, k2, arr', fz', k3, k4, k5⟩ := H.tip h arr ty fz (by omega) p o r
    have hb := H.home h (by omega)
    obtain ⟨l1, l2, arr'', fz'', l3, l4, l5⟩ := K.tip h arr' ty fz' (by omega) (by rw [hb, k1]; exact p) (by rw [hb]; exact k2) (by rw [hb]; exact k3)
    rw [hb] at l1 l2 l3 l5
    exact ⟨by omega, l2, arr'', fz'', l3, by omega, fun q => by have := l5 (by have := k5 q; omega); omega⟩
  fo := fun i hi => by rw [K.fo i (Nat.lt_of_lt_of_le hi H.nfo), H.fo i hi]
  nfo := Nat.le_trans H.nfo K.nfo

theorem Key.le.mono {c c' : Cx} (H : CxLe c c') {k : Key} (h : k.le c) : k.le c' := by
  cases k with
  | loc a g => exact Nat.le_trans h (H.gen a)
  | fo i => exact Nat.lt_of_lt_of_le h H.nfo

theorem Key.ok.back {c c' : Cx} (H : CxLe c c') {k : Key} (h : k.le c) (h' : k.ok c') : k.ok c ∧ k.blk c'.gh = k.blk c.gh := by
  cases k with
  | loc a g =>
    simp only [Key.ok, Key.le] at h h' ⊢
    have := H.gen a
    exact ⟨by omega, H.home a (by omega)⟩
  | fo i => exact ⟨trivial, H.fo i h⟩

theorem Tip.mono {c c' : Cx} (H : CxLe c c') {h ty : Nat} {es : List (List V)} {v : Value} (hg : c.gen h = c'.gen h) (t : Tip c h ty es v) : Tip c' h ty es v := by
  obtain ⟨o, len, cap, arr, fz, sz, e1, e2, e3, e4, e5, e6, e7, e8, e9, e10, e11⟩ := t
  have hpos : 0 < c.gh.G (c.gh.β h) := by
    rw [e7]
    have : 0 < es.length := List.length_pos_iff.2 e2
    have := Nat.mul_pos (show 0 < len by omega) e4
    omega
  obtain ⟨k1, k2, arr', fz', k3, k4, k5⟩ := H.tip h arr ty fz hg hpos e11 e8
  have hb := H.home h hg
  exact ⟨o, len, cap, arr', fz', sz, by rw [hb]; exact e1, e2, e3, e4, e5, e6, by rw [hb, k1]; exact e7, by rw [hb]; exact k3, by omega, by have := k5 (by omega); omega, by rw [hb]; exact k2⟩

mutual
theorem RelC.mono {c c' : Cx} (H : CxLe c c') : ∀ (x : C) (v : Value), RelC c x v → RelC c' x v
  | .v x, v, h => by simp only [RelC] at h ⊢; exact RelV.mono H.rd x v h
  | .esl, v, h => by simpa [RelC] using h
  | .lin a g ty es, v, h => by
    simp only [RelC] at h ⊢
    refine ⟨RelV.mono H.rd _ v h.1, Nat.le_trans h.2.1 (H.gen a), fun e => ?_⟩
    have := H.gen a
    have := h.2.1
    exact Tip.mono H (by omega) (h.2.2 (by omega))
  | .osl k sz off len, v, h => by
    simp only [RelC] at h ⊢
    obtain ⟨h1, A, cap, r1, r2, r3⟩ := h
    refine ⟨h1.mono H, A, cap, r1, r2, fun hp => ?_⟩
    obtain ⟨b, arr, ty, fz, r4, r5, r6, r7⟩ := r3 hp
    obtain ⟨arr', fz', s1, s2⟩ := H.size _ _ _ _ r5
    refine ⟨b, arr', ty, fz', r4, s1, by omega, fun e => ?_⟩
    obtain ⟨e1, e2⟩ := Key.ok.back H h1 e
    rw [e2]; exact r7 e1
  | .ref k off, v, h => by
    simp only [RelC] at h ⊢
    obtain ⟨h1, b, r1, r2⟩ := h
    refine ⟨h1.mono H, b, r1, fun e => ?_⟩
    obtain ⟨e1, e2⟩ := Key.ok.back H h1 e
    rw [e2]; exact r2 e1
  | .fn f a b, v, h => by
    simp only [RelC] at h ⊢
    obtain ⟨fa, fb, e, h1, h2⟩ := h
    exact ⟨fa, fb, e, RelCs.mono H a fa h1, RelCs.mono H b fb h2⟩
  | .own _ _, v, h => by simpa [RelC] using h
  | .sd a g ty es, v, h => by
    simp only [RelC] at h ⊢
    refine ⟨h.1, Nat.le_trans h.2.1 (H.gen a), fun e => ?_⟩
    have := H.gen a
    have := h.2.1
    obtain ⟨A, cap, r1, r2, r3⟩ := h.2.2 (by omega)
    exact ⟨A, cap, r1, Tip.mono H (by omega) r2, RelV.mono H.rd _ _ r3⟩
  | .dead, v, h => by simpa [RelC] using h
theorem RelCs.mono {c c' : Cx} (H : CxLe c c') : ∀ (xs : List C) (vs : List Value), RelCs c xs vs → RelCs c' xs vs
  | [], [], _ => by simp [RelCs]
  | x :: xs, v :: vs, h => by
    simp only [RelCs] at h ⊢
    exact ⟨RelC.mono H x v h.1, RelCs.mono H xs vs h.2⟩
  | [], _ :: _, h => by simp [RelCs] at h
  | _ :: _, [], h => by simp [RelCs] at h
end

mutual
theorem RelT.mono {c c' : Cx} (H : CxLe c c') : ∀ (x : T) (v : Value), RelT c x v → RelT c' x v
  | .one x, v, h => by cases x <;> simp only [RelT] at h ⊢ <;> exact RelC.mono H _ v h
  | .agg cs, v, h => by
    simp only [RelT] at h ⊢
    obtain ⟨arr, e, r⟩ := h
    exact ⟨arr, e, RelCs.mono H cs arr r⟩
  | .tup ts, v, h => by
    simp only [RelT] at h ⊢
    obtain ⟨arr, e, r⟩ := h
    exact ⟨arr, e, RelTs.mono H ts arr r⟩
theorem RelTs.mono {c c' : Cx} (H : CxLe c c') : ∀ (xs : List T) (vs : List Value), RelTs c xs vs → RelTs c' xs vs
  | [], [], _ => by simp [RelTs]
  | x :: xs, v :: vs, h => by
    simp only [RelTs] at h ⊢
    exact ⟨RelT.mono H x v h.1, RelTs.mono H xs vs h.2⟩
  | [], _ :: _, h => by simp [RelTs] at h
  | _ :: _, [], h => by simp [RelTs] at h
end

theorem RelC.flat {c : Cx} : ∀ {x : C} {v : Value}, RelC c x v → flat v
  | .v _, _, h => by simp only [RelC] at h; exact RelV.flat h
  | .esl, _, h => by simp only [RelC] at h; obtain ⟨A, rfl⟩ := h; rfl
  | .lin _ _ _ _, _, h => by simp only [RelC] at h; exact RelV.flat h.1
  | .osl _ _ _ _, _, h => by simp only [RelC] at h; obtain ⟨_, A, cap, rfl, _⟩ := h; rfl
  | .ref _ _, _, h => by simp only [RelC] at h; obtain ⟨_, b, rfl, _⟩ := h; rfl
  | .fn _ _ _, _, h => by simp only [RelC] at h; obtain ⟨_, _, rfl, _⟩ := h; rfl
  | .own _ _, _, h => by simpa [RelC] using h
  | .sd _ _ _ _, _, h => by simp only [RelC] at h; exact h.1
  | .dead, _, h => by simpa [RelC] using h

end Go.Dev

/- The frame: what is kept from operation to operation. -/
namespace Go.Dev
open Go

/-- The state of the memory when the call began. -/
structure Ent where
  w : World
  G : Nat → Nat
  ow : Nat → Ow

def genOf (fr : Fr) (h : Nat) : Nat := ((fr.bx[h]?).map (·.g)).getD 0

def BoxRel (c : Cx) (b : Nat) (own : Ow) (o : Ob) : Prop :=
  ∃ arr ty, c.w.heap[b]? = some (.cells arr ty (0, 0)) ∧ (o.ty ≠ 0 → ty = o.ty ∧ arr.size = o.cs.length) ∧
    (∀ (i : Nat) (x : C), o.cs[i]? = some x → ∃ v, arr[i]? = some v ∧ RelC c x v) ∧ c.gh.G b = 0 ∧ c.gh.ow b = own

structure RelFr (e : Ent) (c : Cx) (fr : Fr) (tmps : Array Value) : Prop where
  gen : c.gen = genOf fr
  nfo : c.nfo = fr.fo.length
  tsz : tmps.size = fr.tm.length
  tms : ∀ (t : Nat) (x : T), fr.tm[t]? = some x → RelT c x (tmps.getD t undef)
  bxs : ∀ (h : Nat) (o : Ob), fr.bx[h]? = some o → o.cs ≠ [] → BoxRel c (c.gh.β h) (.home h) o
  fos : ∀ (i : Nat) (o : Ob), fr.fo[i]? = some o → o.cs ≠ [] → BoxRel c (c.gh.φ i) (.fo i) o
  old : ∀ b, b < e.w.heap.size → e.ow b = .no → c.w.heap[b]? = e.w.heap[b]?
  ows : ∀ b, b < e.w.heap.size → e.ow b = .no → c.gh.ow b = .no ∧ c.gh.G b = e.G b
  size : e.w.heap.size ≤ c.w.heap.size
  os : c.w.os = e.w.os
  tape : c.w.tape = e.w.tape
  output : c.w.output = e.w.output

theorem BoxRel.mono {c c' : Cx} {b : Nat} {own : Ow} {o : Ob} (H : CxLe c c') (hh : c'.w.heap[b]? = c.w.heap[b]?) (hG : c'.gh.G b = c.gh.G b) (ho : c'.gh.ow b = c.gh.ow b)
    (h : BoxRel c b own o) : BoxRel c' b own o := by
  obtain ⟨arr, ty, h1, h2, h3, h4, h5⟩ := h
  exact ⟨arr, ty, by rw [hh]; exact h1, h2, fun i x hx => let ⟨v, a, r⟩ := h3 i x hx; ⟨v, a, RelC.mono H x v r⟩, by rw [hG]; exact h4, by rw [ho]; exact h5⟩

/-- The step from one state to the next. -/
theorem RelFr.move {e : Ent} {c c' : Cx} {fr fr' : Fr} {tmps : Array Value} (R : RelFr e c fr tmps) (H : CxLe c c') (hgen : c'.gen = genOf fr') (hnfo : c'.nfo = fr'.fo.length)
    (htm : fr'.tm = fr.tm) (hb : ∀ (h : Nat) (o : Ob), fr'.bx[h]? = some o → o.cs ≠ [] → BoxRel c' (c'.gh.β h) (.home h) o)
    (hf : ∀ (i : Nat) (o : Ob), fr'.fo[i]? = some o → o.cs ≠ [] → BoxRel c' (c'.gh.φ i) (.fo i) o)
    (hold : ∀ b, b < e.w.heap.size → e.ow b = .no → c'.w.heap[b]? = c.w.heap[b]?)
    (hows : ∀ b, b < e.w.heap.size → e.ow b = .no → c'.gh.ow b = c.gh.ow b ∧ c'.gh.G b = c.gh.G b) (hsz : c.w.heap.size ≤ c'.w.heap.size)
    (hos : c'.w.os = c.w.os) (htape : c'.w.tape = c.w.tape) (hout : c'.w.output = c.w.output) : RelFr e c' fr' tmps where
  gen := hgen
  nfo := hnfo
  tsz := by rw [htm]; exact R.tsz
  tms := fun t x hx => RelT.mono H x _ (R.tms t x (by rwa [htm] at hx))
  bxs := hb
  fos := hf
  old := fun b h1 h2 => by rw [hold b h1 h2, R.old b h1 h2]
  ows := fun b h1 h2 => by rw [(hows b h1 h2).1, (hows b h1 h2).2]; exact R.ows b h1 h2
  size := Nat.le_trans R.size hsz
  os := by rw [hos, R.os]
  tape := by rw [htape, R.tape]
  output := by rw [hout, R.output]

/-- A temporary is written. -/
theorem RelFr.put {e : Ent} {c : Cx} {fr : Fr} {tmps : Array Value} (R : RelFr e c fr tmps) {x : T} {v : Value} (h : RelT c x v) (dst : Option Nat) :
    RelFr e c (putT fr dst x) (match dst with | some d => tmps.setIfInBounds d v | none => tmps) := by
  cases dst with
  | none => exact R
  | some d =>
    exact { R with
      tsz := by simpa [putT] using R.tsz
      tms := fun t y hy => by
        simp only [putT] at hy
        rw [List.getElem?_set] at hy
        simp only [Array.getD_eq_getD_getElem?, Array.getElem?_setIfInBounds]
        split at hy
        · rename_i ht
          subst ht
          split at hy
          · rename_i hlt
            simp only [Option.some.injEq] at hy
            subst hy
            have : d < tmps.size := by rw [R.tsz]; exact hlt
            simpa [this] using h
          · cases hy
        · rename_i ht
          simp only [if_neg ht]
          have := R.tms t y hy
          rwa [Array.getD_eq_getD_getElem?] at this }

/-- Only the count of draws has moved. -/
def Cx.at (c : Cx) (w : World) : Cx := { c with w := w }

theorem CxLe.of_heap {c : Cx} {w' : World} (h : w'.heap = c.w.heap) : CxLe c (c.at w') where
  rd := fun b o v h1 h2 => ⟨h1, by simpa [Cx.at, World.cell?, h] using h2⟩
  size := fun b arr ty fz hb => ⟨arr, fz, by simpa [Cx.at, h] using hb, rfl⟩
  gen := fun _ => Nat.le_refl _
  home := fun _ _ => rfl
  tip := fun a arr ty fz _ _ h2 h3 => ⟨rfl, h2, arr, fz, by simpa [Cx.at, h] using h3, rfl, id⟩
  fo := fun _ _ => rfl
  nfo := Nat.le_refl _

theorem RelFr.of_heap {e : Ent} {c : Cx} {fr : Fr} {tmps : Array Value} (R : RelFr e c fr tmps) {w' : World} (h : w'.heap = c.w.heap) (hos : w'.os = c.w.os) (ht : w'.tape = c.w.tape) (ho : w'.output = c.w.output) :
    RelFr e (c.at w') fr tmps := by
  have H := CxLe.of_heap (c := c) h
  refine R.move H R.gen R.nfo rfl (fun a o h1 h2 => ?_) (fun i o h1 h2 => ?_) (fun b _ _ => by simp [Cx.at, h]) (fun b _ _ => ⟨rfl, rfl⟩) (by simp [Cx.at, h]) hos ht ho
  · exact (R.bxs a o h1 h2).mono H (by simp [Cx.at, h]) rfl rfl
  · exact (R.fos i o h1 h2).mono H (by simp [Cx.at, h]) rfl rfl

/-! ### A new block -/

def upd {α : Type} (f : Nat → α) (i : Nat) (a : α) : Nat → α := fun j => if j = i then a else f j

theorem upd_same {α : Type} (f : Nat → α) (i : Nat) (a : α) : upd f i a i = a := by simp [upd]
theorem upd_other {α : Type} (f : Nat → α) {i j : Nat} (a : α) (h : j ≠ i) : upd f i a j = f j := by simp [upd, h]

/-- A block that nobody owns: r of its cells may be looked at. -/
def Cx.alloc (c : Cx) (o : Obj) (r : Nat) : Cx :=
  { c with w := c.w.alloc o, gh := { c.gh with G := upd c.gh.G c.w.heap.size r, ow := upd c.gh.ow c.w.heap.size .no } }

/-- A block of a home. -/
def Cx.allocH (c : Cx) (o : Obj) (r d : Nat) : Cx :=
  { c with w := c.w.alloc o, gen := upd c.gen d (c.gen d + 1), gh := { c.gh with β := upd c.gh.β d c.w.heap.size, G := upd c.gh.G c.w.heap.size r, ow := upd c.gh.ow c.w.heap.size (.home d) } }

theorem heap_alloc_lt (w : World) (o : Obj) {b : Nat} (h : b < w.heap.size) : (w.alloc o).heap[b]? = w.heap[b]? := by
  simp only [World.alloc, Array.getElem?_push]; rw [if_neg (by omega)]

theorem heap_alloc_some (w : World) (o : Obj) {b : Nat} {x : Obj} (h : w.heap[b]? = some x) : (w.alloc o).heap[b]? = some x ∧ b ≠ w.heap.size := by
  have hb : b < w.heap.size := (Array.getElem?_eq_some_iff.1 h).1
  exact ⟨by rw [heap_alloc_lt w o hb, h], by omega⟩

theorem heap_alloc_new (w : World) (o : Obj) : (w.alloc o).heap[w.heap.size]? = some o := by unfold World.alloc; simp only [Array.getElem?_push, if_true]

theorem rd_alloc (w : World) (G : Nat → Nat) (o : Obj) (r : Nat) : RdLe w G (w.alloc o) (upd G w.heap.size r) := by
  intro b i v h1 h2
  have hb := World.block_lt_of_cell? w ⟨b, i, none⟩ h2
  simp only at hb
  refine ⟨by rw [upd_other _ _ (by omega)]; exact h1, ?_⟩
  rw [World.cell?_alloc_lt w o ⟨b, i, none⟩ hb, h2]

theorem CxLe.alloc (c : Cx) (o : Obj) (r : Nat) : CxLe c (c.alloc o r) where
  rd := rd_alloc c.w c.gh.G o r
  size := fun b arr ty fz h => ⟨arr, fz, (heap_alloc_some _ o h).1, rfl⟩
  gen := fun _ => Nat.le_refl _
  home := fun _ _ => rfl
  tip := fun h arr ty fz _ _ h2 h3 => by
    obtain ⟨k1, k2⟩ := heap_alloc_some _ o h3
    exact ⟨upd_other _ _ k2, by simp only [Cx.alloc]; rw [upd_other _ _ k2]; exact h2, arr, fz, k1, rfl, id⟩
  fo := fun _ _ => rfl
  nfo := Nat.le_refl _

theorem CxLe.allocH (c : Cx) (o : Obj) (r d : Nat) : CxLe c (c.allocH o r d) where
  rd := rd_alloc c.w c.gh.G o r
  size := fun b arr ty fz h => ⟨arr, fz, (heap_alloc_some _ o h).1, rfl⟩
  gen := fun h => by
    simp only [Cx.allocH, upd]
    split
    · rename_i e; subst e; omega
    · exact Nat.le_refl _
  home := fun h e => by
    simp only [Cx.allocH, upd] at e ⊢
    split
    · rename_i k; subst k; simp at e
    · rfl
  tip := fun h arr ty fz e _ h2 h3 => by
    obtain ⟨k1, k2⟩ := heap_alloc_some _ o h3
    exact ⟨upd_other _ _ k2, by simp only [Cx.allocH]; rw [upd_other _ _ k2]; exact h2, arr, fz, k1, rfl, id⟩
  fo := fun _ _ => rfl
  nfo := Nat.le_refl _

theorem RelFr.alloc {e : Ent} {c : Cx} {fr : Fr} {tmps : Array Value} (R : RelFr e c fr tmps) (o : Obj) (r : Nat) : RelFr e (c.alloc o r) fr tmps := by
  have H := CxLe.alloc c o r
  have hsz := R.size
  refine R.move H R.gen R.nfo rfl (fun a q h1 h2 => ?_) (fun i q h1 h2 => ?_) (fun b h1 _ => heap_alloc_lt _ _ (by omega)) (fun b h1 _ => ?_) (by simp [Cx.alloc]) rfl rfl rfl
  · have k := R.bxs a q h1 h2
    obtain ⟨arr, ty, k1, _⟩ := k
    obtain ⟨l1, l2⟩ := heap_alloc_some _ o k1
    exact (R.bxs a q h1 h2).mono H (by simp only [Cx.alloc]; rw [l1, k1]) (upd_other _ _ l2) (upd_other _ _ l2)
  · have k := R.fos i q h1 h2
    obtain ⟨arr, ty, k1, _⟩ := k
    obtain ⟨l1, l2⟩ := heap_alloc_some _ o k1
    exact (R.fos i q h1 h2).mono H (by simp only [Cx.alloc]; rw [l1, k1]) (upd_other _ _ l2) (upd_other _ _ l2)
  · have : b ≠ c.w.heap.size := by omega
    exact ⟨upd_other _ _ this, upd_other _ _ this⟩

theorem genOf_set {fr : Fr} {d : Nat} {q : Ob} (hd : d < fr.bx.length) (bx' : List Ob) (hb : bx' = fr.bx.set d q) : genOf { fr with bx := bx' } = upd (genOf fr) d q.g := by
  funext h
  subst hb
  simp only [genOf, upd, List.getElem?_set]
  by_cases e : h = d
  · subst e; simp [hd]
  · rw [if_neg (fun k => e k.symm), if_neg e]

/-- A new block for a home: a variable, if cells are told; else a list, of which r cells may be looked at. -/
theorem RelFr.allocH {e : Ent} {c : Cx} {fr : Fr} {tmps : Array Value} (R : RelFr e c fr tmps) (arr : Array Value) (ty r d tyo : Nat) (cs : List C) (hd : d < fr.bx.length)
    (hr : cs ≠ [] → r = 0) (hty : tyo ≠ 0 → cs ≠ [] → ty = tyo ∧ arr.size = cs.length) (hrel : ∀ (i : Nat) (x : C), cs[i]? = some x → ∃ v, arr[i]? = some v ∧ RelC c x v) :
    RelFr e (c.allocH (.cells arr ty) r d) { fr with bx := fr.bx.set d ⟨c.gen d + 1, tyo, cs⟩ } tmps := by
  have H := CxLe.allocH c (.cells arr ty) r d
  have hsz := R.size
  refine R.move H ?_ R.nfo rfl (fun a q h1 h2 => ?_) (fun i q h1 h2 => ?_) (fun b h1 _ => heap_alloc_lt _ _ (by omega)) (fun b h1 _ => ?_) (by simp [Cx.allocH]) rfl rfl rfl
  · simp only [Cx.allocH]
    rw [genOf_set hd _ rfl, R.gen]
  · simp only [List.getElem?_set] at h1
    split at h1
    · rename_i k
      subst k
      simp only [Option.some.injEq] at h1
      subst h1
      refine ⟨arr, ty, ?_, fun k => hty k h2, fun i x hx => ?_, ?_, ?_⟩
      · simp only [Cx.allocH, upd_same]; exact heap_alloc_new ..
      · obtain ⟨v, v1, v2⟩ := hrel i x hx
        exact ⟨v, v1, RelC.mono H x v v2⟩
      · simp only [Cx.allocH, upd_same]; exact hr h2
      · simp only [Cx.allocH, upd_same]
    · rename_i k
      have hk := R.bxs a q h1 h2
      obtain ⟨arr', ty', k1, _⟩ := hk
      obtain ⟨l1, l2⟩ := heap_alloc_some _ (Obj.cells arr ty) k1
      have hβ : (c.allocH (.cells arr ty) r d).gh.β a = c.gh.β a := upd_other _ _ (fun k' => k k'.symm)
      rw [hβ]
      exact (R.bxs a q h1 h2).mono H (by simp only [Cx.allocH]; rw [l1, k1]) (upd_other _ _ l2) (upd_other _ _ l2)
  · have k := R.fos i q h1 h2
    obtain ⟨arr', ty', k1, _⟩ := k
    obtain ⟨l1, l2⟩ := heap_alloc_some _ (Obj.cells arr ty) k1
    exact (R.fos i q h1 h2).mono H (by simp only [Cx.allocH]; rw [l1, k1]) (upd_other _ _ l2) (upd_other _ _ l2)
  · have : b ≠ c.w.heap.size := by omega
    exact ⟨upd_other _ _ this, upd_other _ _ this⟩

/-! ### A variable is written -/

theorem splice_get {old new : List C} {off : Nat} (h : off + new.length ≤ old.length) (i : Nat) :
    (splice old off new)[i]? = if i < off then old[i]? else if i < off + new.length then new[i - off]? else old[i]? := by
  simp only [splice, List.append_assoc]
  have h1 : (old.take off).length = off := by simp; omega
  split
  · rename_i hi
    rw [List.getElem?_append_left (by omega), List.getElem?_take, if_pos hi]
  · rename_i hi
    rw [List.getElem?_append_right (by omega), h1]
    split
    · rename_i hj
      rw [List.getElem?_append_left (by omega)]
    · rename_i hj
      rw [List.getElem?_append_right (by omega), List.getElem?_drop]
      congr 1
      omega

theorem splice_length {old new : List C} {off : Nat} (h : off + new.length ≤ old.length) : (splice old off new).length = old.length := by
  simp only [splice, List.length_append, List.length_take, List.length_drop]; omega

/-- The machine's row behind the store. -/
def rowPut (arr : Array Value) (off : Nat) (vs : List Value) : Array Value := (arr.toList.take off ++ vs ++ arr.toList.drop (off + vs.length)).toArray

theorem rowPut_get {arr : Array Value} {off : Nat} {vs : List Value} (h : off + vs.length ≤ arr.size) (i : Nat) :
    (rowPut arr off vs)[i]? = if i < off then arr[i]? else if i < off + vs.length then vs[i - off]? else arr[i]? := by
  have hl : arr.toList.length = arr.size := Array.length_toList
  have h1 : (arr.toList.take off).length = off := by simp; omega
  simp only [rowPut, List.getElem?_toArray, List.append_assoc]
  split
  · rename_i hi
    rw [List.getElem?_append_left (by omega), List.getElem?_take, if_pos hi, Array.getElem?_toList]
  · rename_i hi
    rw [List.getElem?_append_right (by omega), h1]
    split
    · rename_i hj
      rw [List.getElem?_append_left (by omega)]
    · rename_i hj
      rw [List.getElem?_append_right (by omega), List.getElem?_drop, ← Array.getElem?_toList]
      congr 1
      omega

theorem rowPut_size {arr : Array Value} {off : Nat} {vs : List Value} (h : off + vs.length ≤ arr.size) : (rowPut arr off vs).size = arr.size := by
  have hl : arr.toList.length = arr.size := Array.length_toList
  simp only [rowPut, List.size_toArray, List.length_append, List.length_take, List.length_drop]; omega

theorem RelCs.length {c : Cx} : ∀ {xs : List C} {vs : List Value}, RelCs c xs vs → xs.length = vs.length
  | [], [], _ => rfl
  | x :: xs, v :: vs, h => by simp only [RelCs] at h; simp [RelCs.length h.2]
  | [], _ :: _, h => by simp [RelCs] at h
  | _ :: _, [], h => by simp [RelCs] at h

theorem RelCs.at {c : Cx} : ∀ {xs : List C} {vs : List Value}, RelCs c xs vs → ∀ {i : Nat} {x : C}, xs[i]? = some x → ∃ v, vs[i]? = some v ∧ RelC c x v
  | [], [], _, i, x, hx => by simp at hx
  | x :: xs, v :: vs, h, i, y, hy => by
    simp only [RelCs] at h
    cases i with
    | zero => simp at hy; subst hy; exact ⟨v, rfl, h.1⟩
    | succ i => simpa using RelCs.at h.2 (i := i) (x := y) (by simpa using hy)
  | [], _ :: _, h, _, _, _ => by simp [RelCs] at h
  | _ :: _, [], h, _, _, _ => by simp [RelCs] at h

theorem RelCs.mk {c : Cx} : ∀ {xs : List C} {vs : List Value}, xs.length = vs.length → (∀ (i : Nat) (x : C) (v : Value), xs[i]? = some x → vs[i]? = some v → RelC c x v) → RelCs c xs vs
  | [], [], _, _ => by simp [RelCs]
  | x :: xs, v :: vs, hl, h => by
    simp only [RelCs]
    exact ⟨h 0 x v rfl rfl, RelCs.mk (by simpa using hl) fun i y u hy hu => h (i + 1) y u (by simpa using hy) (by simpa using hu)⟩
  | [], _ :: _, h, _ => by simp at h
  | _ :: _, [], h, _ => by simp at h

def Cx.row (c : Cx) (b : Nat) (arr : Array Value) : Cx := { c with w := c.w.setRow b arr }

theorem heap_setRow_other (w : World) {b i : Nat} (arr : Array Value) (h : i ≠ b) : (w.setRow b arr).heap[i]? = w.heap[i]? := by
  simp only [World.setRow, Array.getElem?_modify]; rw [if_neg (fun k => h k.symm)]

theorem heap_setRow_same (w : World) {b : Nat} {arr arr' : Array Value} {ty : Nat} {fz : Nat × Nat} (h : w.heap[b]? = some (.cells arr ty fz)) : (w.setRow b arr').heap[b]? = some (.cells arr' ty fz) := by
  simp [World.setRow, Array.getElem?_modify, h]

theorem CxLe.row (c : Cx) {b ty : Nat} {arr arr' : Array Value} {fz : Nat × Nat} (h : c.w.heap[b]? = some (.cells arr ty fz)) (hG : c.gh.G b = 0) (hs : arr'.size = arr.size) : CxLe c (c.row b arr') where
  rd := fun i o v h1 h2 => by
    have hne : i ≠ b := by rintro rfl; omega
    refine ⟨h1, ?_⟩
    simp only [World.cell?] at h2 ⊢
    rw [show (c.row b arr').w = c.w.setRow b arr' from rfl, heap_setRow_other _ _ hne]
    exact h2
  size := fun i a t f hi => by
    by_cases e : i = b
    · subst e
      rw [h] at hi
      simp only [Option.some.injEq, Obj.cells.injEq] at hi
      obtain ⟨rfl, rfl, rfl⟩ := hi
      exact ⟨arr', fz, heap_setRow_same _ h, hs⟩
    · exact ⟨a, f, by rw [show (c.row b arr').w = c.w.setRow b arr' from rfl, heap_setRow_other _ _ e]; exact hi, rfl⟩
  gen := fun _ => Nat.le_refl _
  home := fun _ _ => rfl
  tip := fun a ar t f _ hp h2 h3 => by
    have hne : c.gh.β a ≠ b := by intro k; rw [k] at hp; omega
    exact ⟨rfl, h2, ar, f, by rw [show (c.row b arr').w = c.w.setRow b arr' from rfl, heap_setRow_other _ _ hne]; exact h3, rfl, id⟩
  fo := fun _ _ => rfl
  nfo := Nat.le_refl _

theorem BoxRel.store {c : Cx} {b : Nat} {own : Ow} {o : Ob} (h : BoxRel c b own o) {off : Nat} {ds : List C} {vs : List Value} (hl : off + ds.length ≤ o.cs.length) (hr : RelCs c ds vs) :
    ∃ arr ty, c.w.heap[b]? = some (.cells arr ty (0, 0)) ∧ off + vs.length ≤ arr.size ∧ CxLe c (c.row b (rowPut arr off vs)) ∧ BoxRel (c.row b (rowPut arr off vs)) b own { o with cs := splice o.cs off ds } := by
  obtain ⟨arr, ty, h1, h2, h3, h4, h5⟩ := h
  have hlen := hr.length
  have hsz : o.cs.length ≤ arr.size := by
    rcases Nat.eq_zero_or_pos o.cs.length with k | k
    · omega
    · obtain ⟨v, hv, _⟩ := h3 (o.cs.length - 1) (o.cs[o.cs.length - 1]'(by omega)) (List.getElem?_eq_getElem _)
      have := (Array.getElem?_eq_some_iff.1 hv).1
      omega
  have hle : off + vs.length ≤ arr.size := by omega
  have H := CxLe.row c (arr' := rowPut arr off vs) h1 h4 (rowPut_size hle)
  refine ⟨arr, ty, h1, hle, H, rowPut arr off vs, ty, heap_setRow_same _ h1, fun k => ?_, fun i x hx => ?_, h4, h5⟩
  · have := h2 k
    exact ⟨this.1, by rw [rowPut_size hle, splice_length hl]; exact this.2⟩
  · simp only [splice_get hl, rowPut_get hle] at hx ⊢
    by_cases k1 : i < off
    · rw [if_pos k1] at hx ⊢
      obtain ⟨v, v1, v2⟩ := h3 i x hx
      exact ⟨v, v1, RelC.mono H x v v2⟩
    · rw [if_neg k1] at hx ⊢
      by_cases k2 : i < off + ds.length
      · rw [if_pos k2] at hx
        rw [if_pos (by omega)]
        obtain ⟨v, v1, v2⟩ := hr.at hx
        exact ⟨v, v1, RelC.mono H x v v2⟩
      · rw [if_neg k2] at hx
        rw [if_neg (by omega)]
        obtain ⟨v, v1, v2⟩ := h3 i x hx
        exact ⟨v, v1, RelC.mono H x v v2⟩

/-- A variable's block is owned: it is another one than that of every other variable. -/
theorem BoxRel.other {c : Cx} {b b' : Nat} {own own' : Ow} {o o' : Ob} (h : BoxRel c b own o) (h' : BoxRel c b' own' o') (hne : own ≠ own') : b ≠ b' := by
  obtain ⟨_, _, _, _, _, _, k⟩ := h
  obtain ⟨_, _, _, _, _, _, k'⟩ := h'
  rintro rfl
  exact hne (k.symm.trans k')

theorem BoxRel.row_other {c : Cx} {b b' : Nat} {own : Ow} {o : Ob} {arr : Array Value} (H : CxLe c (c.row b arr)) (h : BoxRel c b' own o) (hne : b' ≠ b) : BoxRel (c.row b arr) b' own o :=
  h.mono H (heap_setRow_other _ _ hne) rfl rfl

/-- The variable behind a key. -/
def Fr.ob (fr : Fr) (k : Key) : Option Ob := match fr.look k.at with
  | some o => if k.fits o.g then some o else none
  | none => none

theorem Fr.ob_loc {fr : Fr} {h g : Nat} {o : Ob} (q : fr.bx[h]? = some o) (hg : o.g = g) : genOf fr h = g := by simp [genOf, q, hg]

/-- A store into a variable. -/
theorem RelFr.store {e : Ent} {c : Cx} {fr : Fr} {tmps : Array Value} (R : RelFr e c fr tmps) {k : Key} {o : Ob} {off : Nat} {ds : List C} {vs : List Value}
    (hk : fr.look k.at = some o) (hf : k.fits o.g = true) (hl : off + ds.length ≤ o.cs.length) (hne : ds ≠ []) (hr : RelCs c ds vs) :
    k.ok c ∧ ∃ arr ty fr', fr.write (.cells k.at off ds) = some fr' ∧ c.w.heap[k.blk c.gh]? = some (.cells arr ty (0, 0)) ∧ off + vs.length ≤ arr.size ∧
      CxLe c (c.row (k.blk c.gh) (rowPut arr off vs)) ∧ RelFr e (c.row (k.blk c.gh) (rowPut arr off vs)) fr' tmps := by
  have hocs : o.cs ≠ [] := by
    intro k0
    rw [k0] at hl
    have hp := List.length_pos_iff.2 hne
    simp only [List.length_nil] at hl
    omega
  cases k with
  | loc h g =>
    simp only [Key.at, Fr.look] at hk
    have hg : o.g = g := by simp only [Key.fits, beq_iff_eq] at hf; exact hf.symm
    have hgen : c.gen h = g := by rw [R.gen]; exact Fr.ob_loc hk hg
    have hb := R.bxs h o hk hocs
    have hh : h < fr.bx.length := (List.getElem?_eq_some_iff.1 hk).1
    obtain ⟨arr, ty, h1, h2, H, h3⟩ := hb.store hl hr
    refine ⟨by simp only [Key.ok]; exact hgen.symm, arr, ty, { fr with bx := fr.bx.set h { o with cs := splice o.cs off ds } }, by simp only [Key.at, Fr.write, hk, if_pos hl], h1, h2, H, ?_⟩
    have hown : c.gh.ow (c.gh.β h) = .home h := hb.choose_spec.choose_spec.2.2.2.2
    refine R.move H ?_ R.nfo rfl (fun a q q1 q2 => ?_) (fun i q q1 q2 => ?_) (fun b b1 b2 => heap_setRow_other _ _ (by rintro rfl; have := (R.ows _ b1 b2).1; simp only [Key.blk] at this; rw [hown] at this; cases this)) (fun b _ _ => ⟨rfl, rfl⟩) (by simp [Cx.row, World.setRow]) rfl rfl rfl
    · show c.gen = _
      rw [genOf_set hh _ rfl, R.gen]
      funext a
      simp only [upd]
      split
      · rename_i ea; subst ea; rw [Fr.ob_loc hk hg, ← hg]
      · rfl
    · simp only [List.getElem?_set] at q1
      split at q1
      · rename_i ea
        subst ea
        simp only [Option.some.injEq] at q1
        subst q1
        exact h3
      · rename_i ea
        have hq := R.bxs a q q1 q2
        exact hq.row_other H (hq.other hb (by simp only [ne_eq, Ow.home.injEq]; exact fun k => ea k.symm))
    · have hq := R.fos i q q1 q2
      exact hq.row_other H (hq.other hb (by simp))
  | fo j =>
    simp only [Key.at, Fr.look] at hk
    have hb := R.fos j o hk hocs
    have hh : j < fr.fo.length := (List.getElem?_eq_some_iff.1 hk).1
    obtain ⟨arr, ty, h1, h2, H, h3⟩ := hb.store hl hr
    refine ⟨trivial, arr, ty, { fr with fo := fr.fo.set j { o with cs := splice o.cs off ds } }, by simp only [Key.at, Fr.write, hk, if_pos hl], h1, h2, H, ?_⟩
    have hown : c.gh.ow (c.gh.φ j) = .fo j := hb.choose_spec.choose_spec.2.2.2.2
    refine R.move H R.gen (by simp only [Cx.row, List.length_set]; exact R.nfo) rfl (fun a q q1 q2 => ?_) (fun i q q1 q2 => ?_) (fun b b1 b2 => heap_setRow_other _ _ ?_) (fun b _ _ => ⟨rfl, rfl⟩) (by simp [Cx.row, World.setRow]) rfl rfl rfl
    · have hq := R.bxs a q q1 q2
      exact hq.row_other H (hq.other hb (by simp))
    · simp only [List.getElem?_set] at q1
      split at q1
      · rename_i ea
        subst ea
        simp only [Option.some.injEq] at q1
        subst q1
        exact h3
      · rename_i ea
        have hq := R.fos i q q1 q2
        exact hq.row_other H (hq.other hb (by simp only [ne_eq, Ow.fo.injEq]; exact fun k => ea k.symm))
    · rintro rfl
      have := (R.ows _ b1 b2).1
      simp only [Key.blk] at this
      rw [hown] at this
      cases this

end Go.Dev

/- The operations, one by one: what the evaluator says of each holds of the machine. -/
namespace Go.Dev
open Go

variable {P : Program}

/-- The operation ends with this value. -/
def Runs (P : Program) (o : Oper) (a : Act) (w w' : World) (v : Value) : Prop :=
  (execOp a.eval o).run P w = .ok (.value v) w' ∨ ((execOp a.eval o).run P w = .ok .skip w' ∧ v = undef)

theorem wp_of_runs {o : Oper} {a : Act} {w w' : World} {v : Value} {K : Act → World → Prop} {Q : Exit → Act → World → Prop} (h : Runs P o a w w' v) (k : K (a.put o.dst v) w') : o.wp P a w K Q := by
  unfold Oper.wp
  rcases h with h | ⟨h, rfl⟩
  · rw [h]; exact k
  · rw [h]; exact k

/-- What a step of the evaluator gives for the machine. -/
def Snd (P : Program) (e : Ent) (c : Cx) (fr : Fr) (a : Act) (o : Oper) (t : T) (ws : List W) : Prop :=
  ∀ fr', fr.writes ws = some fr' → ∃ v c', Runs P o a c.w c'.w v ∧ CxLe c c' ∧ RelFr e c' fr' a.tmps ∧ RelT c' t v

theorem Snd.plain {e : Ent} {c : Cx} {fr : Fr} {a : Act} {o : Oper} {t : T} {v : Value} (R : RelFr e c fr a.tmps) (h : (execOp a.eval o).run P c.w = .ok (.value v) c.w) (ht : RelT c t v) : Snd P e c fr a o t [] := by
  intro fr' hw
  simp only [Fr.writes, Option.some.injEq] at hw
  subst hw
  exact ⟨v, c, .inl h, CxLe.refl c, R, ht⟩

theorem constC_rel {c : Cx} {v : Value} {x : C} (h : constC v = some x) : RelC c x v := by
  unfold constC at h
  split at h <;> first | (cases h; done) | skip
  all_goals (simp only [Option.some.injEq] at h; subst h; simp only [RelC, RelV])
  · exact ⟨none, rfl⟩
  all_goals exact ⟨trivial, rfl⟩

theorem allC_rel {c : Cx} : ∀ {vs : List Value} {xs : List C}, allC vs = some xs → RelCs c xs vs
  | [], xs, h => by simp only [allC, Option.some.injEq] at h; subst h; simp [RelCs]
  | v :: vs, xs, h => by
    simp only [allC] at h
    split at h
    · rename_i x ys h1 h2
      simp only [Option.some.injEq] at h
      subst h
      simp only [RelCs]
      exact ⟨constC_rel h1, allC_rel h2⟩
    · cases h

theorem constC_live {v : Value} {x : C} (h : constC v = some x) : x ≠ .dead := by
  unfold constC at h
  split at h <;> first | (cases h; done) | (simp only [Option.some.injEq] at h; subst h; simp)

theorem RelT.one {c : Cx} {x : C} {v : Value} (h : RelC c x v) : RelT c (.one x) v := by cases x <;> simp only [RelT] <;> exact h

theorem constT_rel {c : Cx} {v : Value} {x : T} (h : constT v = some x) : RelT c x v := by
  unfold constT at h
  split at h
  · rename_i cs
    cases hc : allC cs.toList with
    | none => simp [hc] at h
    | some ys =>
      simp only [hc, Option.map_some, Option.some.injEq] at h
      subst h
      simp only [RelT]
      exact ⟨cs.toList, by simp, allC_rel hc⟩
  · cases hc : constC v with
    | none => simp [hc] at h
    | some y =>
      simp only [hc, Option.map_some, Option.some.injEq] at h
      subst h
      exact RelT.one (constC_rel hc)

theorem get_rel {e : Ent} {c : Cx} {fr : Fr} {a : Act} (R : RelFr e c fr a.tmps) {x : Operand} {y : Opd} (h : cOpd x = some y) : RelT c (fr.get y) (a.eval x) := by
  cases x with
  | tmp n =>
    simp only [cOpd, Option.some.injEq] at h
    subst h
    simp only [Fr.get, Act.eval, List.getD_eq_getElem?_getD]
    cases ht : fr.tm[n]? with
    | none => simp [RelT]
    | some t => exact R.tms n t ht
  | const v =>
    simp only [cOpd] at h
    cases hc : constT v with
    | none => simp [hc] at h
    | some t =>
      simp only [hc, Option.map_some, Option.some.injEq] at h
      subst h
      exact constT_rel hc
  | global g =>
    simp only [cOpd, Option.some.injEq] at h
    subst h
    simp [Fr.get, RelT]
  | func f =>
    simp only [cOpd, Option.some.injEq] at h
    subst h
    simp only [Fr.get, Act.eval]
    exact RelT.one (by simp only [RelC]; exact ⟨[], [], rfl, by simp [RelCs], by simp [RelCs]⟩)

theorem gets_rel {e : Ent} {c : Cx} {fr : Fr} {a : Act} (R : RelFr e c fr a.tmps) : ∀ {xs : List Operand} {ys : List Opd}, cOpds xs = some ys → RelTs c (ys.map fr.get) (xs.map a.eval)
  | [], ys, h => by simp only [cOpds, Option.some.injEq] at h; subst h; simp [RelTs]
  | x :: xs, ys, h => by
    simp only [cOpds] at h
    split at h
    · rename_i y zs h1 h2
      simp only [Option.some.injEq] at h
      subst h
      simp only [List.map_cons, RelTs]
      exact ⟨get_rel R h1, gets_rel R h2⟩
    · cases h

theorem RelT.one_live {c : Cx} {x : C} {v : Value} (h : RelT c (.one x) v) (hx : x ≠ .dead) : RelC c x v := by
  cases x <;> simp only [RelT] at h <;> first | exact h | exact absurd rfl hx

theorem flat_cells {v : Value} (h : flat v) : v.cells = #[v] := by
  cases v <;> first | rfl | cases h

theorem RelT.cellsO {c : Cx} {t : T} {v : Value} {cs : List C} (h : RelT c t v) (ht : t.cellsO = some cs) : RelCs c cs v.cells.toList := by
  cases t with
  | one x =>
    have hx : x ≠ .dead := by rintro rfl; simp [T.cellsO] at ht
    have hr := h.one_live hx
    have : cs = [x] := by cases x <;> simp_all [T.cellsO]
    subst this
    have hf := hr.flat
    rw [flat_cells hf]
    simp only [RelCs]
    exact ⟨hr, trivial⟩
  | agg ds =>
    simp only [T.cellsO, Option.some.injEq] at ht
    subst ht
    simp only [RelT] at h
    obtain ⟨arr, rfl, r⟩ := h
    exact r
  | tup ts => simp [T.cellsO] at ht

theorem RelCs.flat {c : Cx} : ∀ {xs : List C} {vs : List Value}, RelCs c xs vs → ∀ v ∈ vs, Dev.flat v
  | [], [], _, _, hv => by cases hv
  | x :: xs, v :: vs, h, u, hu => by
    simp only [RelCs] at h
    rcases List.mem_cons.1 hu with rfl | hu
    · exact h.1.flat
    · exact RelCs.flat h.2 u hu
  | [], _ :: _, h, _, _ => by simp [RelCs] at h
  | _ :: _, [], h, _, _ => by simp [RelCs] at h

/-! ### Those that touch no variable -/

theorem ask_done {fr : Fr} {a : Ans} {t : T} {ws : List W} {ls : List Loc} (h : fr.ask (.done a) = some (t, ws, ls)) : a = some (t, ws) ∧ ls = [] := by
  cases a with
  | none => simp [Fr.ask] at h
  | some q =>
    obtain ⟨t', ws'⟩ := q
    simp only [Fr.ask, Option.some.injEq, Prod.mk.injEq] at h
    exact ⟨by rw [h.1, h.2.1], h.2.2.symm⟩

theorem ask_one {fr : Fr} {l : Loc} {k : Ob → Ans} {t : T} {ws : List W} {ls : List Loc} (h : fr.ask (.one l k) = some (t, ws, ls)) : ∃ o, fr.look l = some o ∧ k o = some (t, ws) := by
  simp only [Req.one, Fr.ask, Fr.looks] at h
  cases hl : fr.look l with
  | none => simp [hl] at h
  | some o =>
    simp only [hl] at h
    refine ⟨o, rfl, ?_⟩
    cases hk : k o with
    | none => simp [hk, Fr.ask] at h
    | some q => obtain ⟨t', ws'⟩ := q; simp [hk, Fr.ask] at h; rw [h.1, h.2.1]

section
variable {e : Ent} {c : Cx} {fr : Fr} {a : Act} {o : Oper}

theorem snd_move (R : RelFr e c fr a.tmps) {x : Operand} {y : Opd} (ho : o.op = .move x ∨ o.op = .assign x) (hx : cOpd x = some y) : Snd P e c fr a o (fr.get y) [] := by
  refine Snd.plain R (v := a.eval x) ?_ (get_rel R hx)
  rcases ho with ho | ho <;> simp [execOp, ho]

theorem snd_pick (R : RelFr e c fr a.tmps) {x y z : Operand} {x' y' z' : Opd} (ho : o.op = .pick x y z) (hx : cOpd x = some x') (hy : cOpd y = some y') (hz : cOpd z = some z') {t : T} {ws : List W}
    (h : (match fr.get x' with | .one (.v (.s (.bool t))) => some (if t then fr.get y' else fr.get z', []) | _ => none) = some (t, ws)) : Snd P e c fr a o t ws := by
  have hc := get_rel R hx
  split at h
  · rename_i b hb
    simp only [Option.some.injEq, Prod.mk.injEq] at h
    obtain ⟨rfl, rfl⟩ := h
    rw [hb] at hc
    have hv : a.eval x = .bool b := by have := hc.one_live (by simp); simp only [RelC, RelV] at this; exact this.1
    refine Snd.plain R (v := if b then a.eval y else a.eval z) ?_ ?_
    · cases b <;> simp [execOp, ho, hv, asBool]
    · cases b
      · exact get_rel R hz
      · exact get_rel R hy
  · cases h

theorem snd_nilck (R : RelFr e c fr a.tmps) {x : Operand} {x' : Opd} (ho : o.op = .nilCheck x) (hx : cOpd x = some x') {t : T} {ws : List W}
    (h : (match fr.get x' with | .one (.v (.pt cs)) => some (.one (.v (.pt cs)), []) | .one (.ref k off) => some (.one (.ref k off), []) | _ => none) = some (t, ws)) : Snd P e c fr a o t ws := by
  have hc := get_rel R hx
  split at h
  · rename_i cs hb
    simp only [Option.some.injEq, Prod.mk.injEq] at h
    obtain ⟨rfl, rfl⟩ := h
    rw [hb] at hc
    have hr := hc
    have := hc.one_live (by simp)
    simp only [RelC, RelV] at this
    obtain ⟨b, i, hv, _⟩ := this
    refine Snd.plain R (v := a.eval x) ?_ hr
    simp [execOp, ho, hv]
  · rename_i k off hb
    simp only [Option.some.injEq, Prod.mk.injEq] at h
    obtain ⟨rfl, rfl⟩ := h
    rw [hb] at hc
    have hr := hc
    have := hc.one_live (by simp)
    simp only [RelC] at this
    obtain ⟨_, b, hv, _⟩ := this
    refine Snd.plain R (v := a.eval x) ?_ hr
    simp [execOp, ho, hv]
  · cases h

theorem pureOf_run {s : Sem Value} {v : Value} (h : pureOf s = some v) (w : World) : s.run P w = .ok v w := by
  cases s <;> simp [pureOf] at h
  subst h
  rfl

theorem pureOf_eq {s : Sem Value} {v : Value} (h : pureOf s = some v) : s = .pure v := by
  cases s <;> simp [pureOf] at h
  subst h
  rfl

theorem RelT.lit {c : Cx} {x v : Value} (h : RelT c (.one (.v (.s x))) v) : v = x ∧ flat v := by
  have := h.one_live (by simp)
  simpa only [RelC, RelV] using this

theorem RelT.mkLit {c : Cx} {x : Value} (h : flat x) : RelT c (.one (.v (.s x))) x := RelT.one (by simp only [RelC, RelV]; exact ⟨trivial, h⟩)

theorem lit_rel {c : Cx} {v : Value} {t : T} (h : lit v = some t) : RelT c t v := by
  cases v <;> simp only [lit, Option.some.injEq, reduceCtorEq] at h
  all_goals subst h; exact RelT.mkLit rfl

theorem scal_run {op : BinOp} {x y v : Value} {t : TypeId} {a b : Operand} (h : scal op x y = some v) (w : World) :
    (do eqGuard op t a b x y; binOp op t x y).run P w = .ok v w := by
  have hg : (eqGuard op t a b x y).run P w = .ok () w := by
    unfold scal at h
    cases op <;> (try (simp [eqGuard]; done)) <;> (unfold eqGuard; split at h <;> first | rfl | cases h)
  simp only [Sem.run_bind, hg, Result.andThen_ok]
  unfold scal at h
  split at h
  · rename_i k n k' m
    split at h
    · rename_i hs
      simp only [Bool.or_eq_true, beq_iff_eq] at hs
      have := pureOf_run (P := P) h w
      rcases hs with rfl | rfl <;> simpa [binOp] using this
    · rename_i hs
      simp only [Bool.or_eq_true, beq_iff_eq, not_or] at hs
      split at h
      · rename_i hk
        subst hk
        have h1 : binOp op t (.int k n) (.int k m) = (match op with | .add | .sub | .mul => Op.intArith op k n m | .quo | .rem => Op.intDiv op k n m | .and | .or | .xor | .andNot => Op.intBits op k n m | _ => Op.intCmp op n m) := by
          cases op <;> first | exact absurd rfl hs.1 | exact absurd rfl hs.2 | simp [binOp]
        rw [h1]
        cases op <;> exact pureOf_run h w
      · cases h
  · rename_i k n k' m
    split at h
    · rename_i hk
      subst hk
      have h1 : binOp op t (.float k n) (.float k m) = (match op with | .add | .sub | .mul | .quo => Op.floatArith op k n m | _ => Op.floatCmp op k n m) := by
        cases op <;> simp [binOp]
      rw [h1]
      cases op <;> exact pureOf_run h w
    · cases h
  · rename_i k a1 a2 k' b1 b2
    split at h
    · rename_i hk
      subst hk
      have h1 : binOp op t (.complex k a1 a2) (.complex k b1 b2) = Op.complexOp op k a1 a2 b1 b2 := by
        cases op <;> simp [binOp]
      rw [h1]
      exact pureOf_run h w
    · cases h
  · rename_i s1 s2
    have h1 : binOp op t (.string s1) (.string s2) = Op.stringOp op s1 s2 := by cases op <;> simp [binOp]
    rw [h1]
    exact pureOf_run h w
  · cases h

theorem snd_bin (R : RelFr e c fr a.tmps) {op : BinOp} {ty ty' : TypeId} {x y : Operand} {x' y' : Opd} (ho : o.op = .binOp op ty x y ty') (hx : cOpd x = some x') (hy : cOpd y = some y') {t : T} {ws : List W}
    (h : (bin op (fr.get x') (fr.get y')).map (fun t => (t, ([] : List W))) = some (t, ws)) : Snd P e c fr a o t ws := by
  have hcx := get_rel R hx
  have hcy := get_rel R hy
  unfold bin at h
  split at h
  · rename_i u v hu hv
    rw [hu] at hcx
    rw [hv] at hcy
    cases hs : scal op u v with
    | none => simp [hs] at h
    | some r =>
      simp only [hs, Option.bind_some] at h
      cases hl : lit r with
      | none => simp [hl] at h
      | some t' =>
        simp only [hl, Option.map_some, Option.some.injEq, Prod.mk.injEq] at h
        obtain ⟨rfl, rfl⟩ := h
        refine Snd.plain R (v := r) ?_ (lit_rel hl)
        have := scal_run (P := P) (t := ty) (a := x) (b := y) hs c.w
        rw [← hcx.lit.1, ← hcy.lit.1] at this
        simp only [execOp, ho]
        rw [Sem.run_bind, this]
        rfl
  · simp at h

theorem run_equalIn_bool {ty : TypeId} (ht : P.underlying ty = some .bool) (w : World) (d : Nat) (a b : Bool) : (Op.equalIn (d + 1) ty (.bool a) (.bool b)).run P w = .ok (a == b) w := by
  simp [Op.equalIn, run_underlying ht]

theorem run_equal_bool {ty : TypeId} (ht : P.underlying ty = some .bool) (w : World) (a b : Bool) : (Op.equal ty (.bool a) (.bool b)).run P w = .ok (a == b) w :=
  run_equalIn_bool ht w 9999 a b

theorem snd_beq (R : RelFr e c fr a.tmps) {neq : Bool} {ty ty' : TypeId} {x y : Operand} {x' y' : Opd} (ho : o.op = .binOp (if neq then .neq else .eql) ty x y ty') (ht : P.underlying ty = some .bool) (hx : cOpd x = some x') (hy : cOpd y = some y') {t : T} {ws : List W}
    (h : (match fr.get x', fr.get y' with
    | .one (.v (.s (.bool a))), .one (.v (.s (.bool b))) => some (tB (if neq then !(a == b) else a == b), [])
    | _, _ => none) = some (t, ws)) : Snd P e c fr a o t ws := by
  have hcx := get_rel R hx
  have hcy := get_rel R hy
  split at h
  · rename_i u v hu hv
    rw [hu] at hcx
    rw [hv] at hcy
    simp only [Option.some.injEq, Prod.mk.injEq] at h
    obtain ⟨rfl, rfl⟩ := h
    have h1 := hcx.lit.1
    have h2 := hcy.lit.1
    refine Snd.plain R (v := .bool (if neq then !(u == v) else u == v)) ?_ (RelT.mkLit (x := .bool _) rfl)
    cases neq
    · have hb : (binOp .eql ty (.bool u) (.bool v)).run P c.w = .ok (.bool (u == v)) c.w := by
        simp only [binOp, Sem.run_bind, run_equal_bool ht, Result.andThen_ok, Sem.run_pure]
      simp only [execOp, ho, h1, h2, Bool.false_eq_true, if_false, Sem.run_bind, eqGuard]
      simp [hb]
    · have hb : (binOp .neq ty (.bool u) (.bool v)).run P c.w = .ok (.bool (!(u == v))) c.w := by
        simp only [binOp, Sem.run_bind, run_equal_bool ht, Result.andThen_ok, Sem.run_pure]
      simp only [execOp, ho, h1, h2, if_true, Sem.run_bind, eqGuard]
      simp [hb]
  · cases h

theorem snd_un (R : RelFr e c fr a.tmps) {op : UnOp} {ty : TypeId} {x : Operand} {x' : Opd} (ho : o.op = .unOp op ty x) (hx : cOpd x = some x') {t : T} {ws : List W}
    (h : (un op (fr.get x')).map (fun t => (t, ([] : List W))) = some (t, ws)) : Snd P e c fr a o t ws := by
  have hcx := get_rel R hx
  unfold un at h
  split at h
  · rename_i u hu
    rw [hu] at hcx
    cases hs : pureOf (Op.unary op u) with
    | none => simp [hs] at h
    | some r =>
      simp only [hs, Option.bind_some] at h
      cases hl : lit r with
      | none => simp [hl] at h
      | some t' =>
        simp only [hl, Option.map_some, Option.some.injEq, Prod.mk.injEq] at h
        obtain ⟨rfl, rfl⟩ := h
        refine Snd.plain R (v := r) ?_ (lit_rel hl)
        have := pureOf_run (P := P) hs c.w
        rw [← hcx.lit.1] at this
        simp only [execOp, ho]
        rw [Sem.run_bind, this]
        rfl
  · simp at h

theorem RelTs.at {c : Cx} : ∀ {xs : List T} {vs : List Value}, RelTs c xs vs → ∀ {i : Nat} {x : T}, xs[i]? = some x → ∃ v, vs[i]? = some v ∧ RelT c x v
  | [], [], _, i, x, hx => by simp at hx
  | x :: xs, v :: vs, h, i, y, hy => by
    simp only [RelTs] at h
    cases i with
    | zero => simp at hy; subst hy; exact ⟨v, rfl, h.1⟩
    | succ i => simpa using RelTs.at h.2 (i := i) (x := y) (by simpa using hy)
  | [], _ :: _, h, _, _, _ => by simp [RelTs] at h
  | _ :: _, [], h, _, _, _ => by simp [RelTs] at h

theorem snd_extract (R : RelFr e c fr a.tmps) {i : Nat} {x : Operand} {x' : Opd} (ho : o.op = .extract x i) (hx : cOpd x = some x') {t : T} {ws : List W}
    (h : (match fr.get x' with | .tup ts => (ts[i]?).map fun t => (t, []) | _ => none) = some (t, ws)) : Snd P e c fr a o t ws := by
  have hcx := get_rel R hx
  split at h
  · rename_i ts hts
    rw [hts] at hcx
    simp only [RelT] at hcx
    obtain ⟨arr, hv, r⟩ := hcx
    cases hi : ts[i]? with
    | none => simp [hi] at h
    | some t' =>
      simp only [hi, Option.map_some, Option.some.injEq, Prod.mk.injEq] at h
      obtain ⟨rfl, rfl⟩ := h
      obtain ⟨v, h1, h2⟩ := r.at hi
      refine Snd.plain R (v := v) ?_ h2
      simp [execOp, ho, hv, Instr.extract, h1]
  · cases h

theorem C.elems_rel {c : Cx} {x : C} {v : Value} {es : List (List V)} (h : RelC c x v) (hx : x.elems = some es) : RelV c.w c.gh.G (.sl es) v := by
  cases x with
  | v y =>
    cases y <;> simp only [C.elems, Option.some.injEq, reduceCtorEq] at hx
    subst hx
    simpa only [RelC] using h
  | esl =>
    simp only [C.elems, Option.some.injEq] at hx
    subst hx
    simp only [RelC] at h
    obtain ⟨A, rfl⟩ := h
    simp only [RelV]
    exact ⟨A, 0, 0, 0, rfl, rfl, Nat.le_refl _, .inl trivial⟩
  | lin a g ty ys =>
    simp only [C.elems, Option.some.injEq] at hx
    subst hx
    simp only [RelC] at h
    exact h.1
  | _ => simp [C.elems] at hx

theorem C.elems_live {x : C} {es : List (List V)} (hx : x.elems = some es) : x ≠ .dead := by rintro rfl; simp [C.elems] at hx

theorem snd_lenS (R : RelFr e c fr a.tmps) {ty : TypeId} {x : Operand} {x' : Opd} {cl : Call} (ho : o.op = .call cl) (hb : cl.callee = .builtin .len) (hargs : cl.args.toList = [x]) (hty : cl.argTypes.toList = [ty]) (ht : P.underlying ty = some .string) (hx : cOpd x = some x') {t : T} {ws : List W}
    (h : (match fr.get x' with
    | .one (.v (.s (.string s))) => some (tI s.size, [])
    | _ => none) = some (t, ws)) : Snd P e c fr a o t ws := by
  have hcx := get_rel R hx
  have ha : cl.args = #[x] := by rw [← Array.toArray_toList (xs := cl.args), hargs]
  have hat : cl.argTypes = #[ty] := by rw [← Array.toArray_toList (xs := cl.argTypes), hty]
  split at h
  · rename_i s hs
    rw [hs] at hcx
    simp only [Option.some.injEq, Prod.mk.injEq] at h
    obtain ⟨rfl, rfl⟩ := h
    refine Snd.plain R (v := .int .i64 s.size) ?_ (RelT.mkLit (x := .int .i64 s.size) rfl)
    simp [execOp, ho, resolve, hb, ha, hat, invoke, builtin, Builtin.len_, run_underlying ht, hcx.lit.1, goInt]
  · cases h

theorem snd_lenL (R : RelFr e c fr a.tmps) {ty el : TypeId} {x : Operand} {x' : Opd} {cl : Call} (ho : o.op = .call cl) (hb : cl.callee = .builtin .len) (hargs : cl.args.toList = [x]) (hty : cl.argTypes.toList = [ty]) (ht : P.underlying ty = some (.slice el)) (hx : cOpd x = some x') {t : T} {ws : List W}
    (h : (match fr.get x' with
    | .one (.osl _ _ _ len) => some (tI len, [])
    | .one c => match c.elems with
      | some es => some (tI es.length, [])
      | none => none
    | _ => none) = some (t, ws)) : Snd P e c fr a o t ws := by
  have hcx := get_rel R hx
  have ha : cl.args = #[x] := by rw [← Array.toArray_toList (xs := cl.args), hargs]
  have hat : cl.argTypes = #[ty] := by rw [← Array.toArray_toList (xs := cl.argTypes), hty]
  split at h
  · rename_i k sz off len hs
    rw [hs] at hcx
    simp only [Option.some.injEq, Prod.mk.injEq] at h
    obtain ⟨rfl, rfl⟩ := h
    have := hcx.one_live (by simp)
    simp only [RelC] at this
    obtain ⟨_, A, cap, hv, _⟩ := this
    refine Snd.plain R (v := .int .i64 len) ?_ (RelT.mkLit (x := .int .i64 len) rfl)
    simp [execOp, ho, resolve, hb, ha, hat, invoke, builtin, Builtin.len_, run_underlying ht, hv, goInt]
  · rename_i y _ hs
    rw [hs] at hcx
    cases hel : y.elems with
    | none => simp [hel] at h
    | some es =>
      simp only [hel, Option.some.injEq, Prod.mk.injEq] at h
      obtain ⟨rfl, rfl⟩ := h
      have := C.elems_rel (hcx.one_live (C.elems_live hel)) hel
      simp only [RelV] at this
      obtain ⟨A, len, cap, sz, hv, hl, _⟩ := this
      subst hl
      refine Snd.plain R (v := .int .i64 es.length) ?_ (RelT.mkLit (x := .int .i64 es.length) rfl)
      simp [execOp, ho, resolve, hb, ha, hat, invoke, builtin, Builtin.len_, run_underlying ht, hv, goInt]
  · cases h

end
end Go.Dev

/- The operations, continued: places, loads, stores, new variables. -/
namespace Go.Dev
open Go

variable {P : Program}

theorem addr_add (b o n : Nat) : (⟨b, o, none⟩ : Addr).add n = ⟨b, o + n, none⟩ := by unfold Addr.add; split <;> simp_all

theorem run_typeInfo' {t : TypeId} {i : TypeInfo} (h : P.info? t = some i) (w : World) : (typeInfo t).run P w = .ok i w := by simp [typeInfo, h]
theorem run_sizeOf' {t : TypeId} {i : TypeInfo} (h : P.info? t = some i) (w : World) : (sizeOf t).run P w = .ok i.size w := by simp [sizeOf, run_typeInfo' h]
theorem run_zeroValue' {t : TypeId} {i : TypeInfo} {z : Value} (h : P.info? t = some i) (hz : i.zero = some z) (w : World) : (zeroValue t).run P w = .ok z w := by simp [zeroValue, run_typeInfo' h, hz]

theorem run_isAgg' {t : TypeId} {d : TypeDesc} (h : P.underlying t = some d) (w : World) : (isAgg t).run P w = .ok (isAggT P t) w := by
  unfold isAgg isAggT
  simp only [Sem.run_bind, run_underlying h, Result.andThen_ok, h]
  cases d <;> rfl

theorem run_loadVar_one {t : TypeId} {d : TypeDesc} (h : P.underlying t = some d) (hs : isAggT P t = false) {w : World} {a : Addr} {v : Value} (hc : w.cell? a = some v) : (loadVar t a).run P w = .ok v w := by
  unfold loadVar
  simp [run_isAgg' h, hs, hc]

theorem run_loadVar_agg {t : TypeId} {d : TypeDesc} {i : TypeInfo} (h : P.underlying t = some d) (hi : P.info? t = some i) (hs : isAggT P t = true) {w : World} {a : Addr} {vs : List Value} (hl : vs.length = i.size)
    (hc : ∀ (j : Nat) (v : Value), vs[j]? = some v → w.cell? (a.add j) = some v) : (loadVar t a).run P w = .ok (.agg vs.toArray) w := by
  unfold loadVar
  have := run_loadCells_list (P := P) w a vs hc
  rw [hl] at this
  simp [run_isAgg' h, hs, run_sizeOf' hi, this]

section
variable {e : Ent} {c : Cx} {fr : Fr} {a : Act} {o : Oper}

theorem snd_faddr (R : RelFr e c fr a.tmps) {ty : TypeId} {x : Operand} {f : Nat} {x' : Opd} {fs : Array Field} {fd : Field} {i : TypeInfo} (ho : o.op = .fieldAddr ty x f) (ht : P.underlying ty = some (.struct fs)) (hf : fs[f]? = some fd)
    (hi : P.info? fd.type = some i) (hs : i.size ≠ 0) (hx : cOpd x = some x') {t : T} {ws : List W}
    (h : (match fr.get x' with
    | .one (.v (.pt cs)) => if fd.offset ≤ cs.length then some (.one (.v (.pt (cs.drop fd.offset))), []) else none
    | .one (.ref k o) => some (.one (.ref k (o + fd.offset)), [])
    | _ => none) = some (t, ws)) : Snd P e c fr a o t ws := by
  have hcx := get_rel R hx
  split at h
  · rename_i cs hcs
    rw [hcs] at hcx
    split at h
    · simp only [Option.some.injEq, Prod.mk.injEq] at h
      obtain ⟨rfl, rfl⟩ := h
      have := hcx.one_live (by simp)
      simp only [RelC, RelV] at this
      obtain ⟨b, q, hv, hr⟩ := this
      refine Snd.plain R (v := .pointer (some ⟨b, q + fd.offset, none⟩)) ?_ (RelT.one (by simp only [RelC, RelV]; exact ⟨b, _, rfl, hr.drop⟩))
      simp [execOp, ho, Instr.fieldAt, run_underlying ht, hf, hv, Instr.sureAddr, fieldPlace, run_sizeOf' hi, hs, addr_add]
    · cases h
  · rename_i k off hcs
    rw [hcs] at hcx
    simp only [Option.some.injEq, Prod.mk.injEq] at h
    obtain ⟨rfl, rfl⟩ := h
    have := hcx.one_live (by simp)
    simp only [RelC] at this
    obtain ⟨h1, b, hv, h2⟩ := this
    refine Snd.plain R (v := .pointer (some ⟨b, off + fd.offset, none⟩)) ?_ (RelT.one (by simp only [RelC]; exact ⟨h1, b, rfl, h2⟩))
    simp [execOp, ho, Instr.fieldAt, run_underlying ht, hf, hv, Instr.sureAddr, fieldPlace, run_sizeOf' hi, hs, addr_add]
  · cases h

theorem T.int_rel {c : Cx} {t : T} {v : Value} {n : Int} (h : RelT c t v) (hn : t.int? = some n) : ∃ k, v = .int k n := by
  unfold T.int? at hn
  split at hn
  · rename_i k m
    simp only [Option.some.injEq] at hn
    subst hn
    exact ⟨k, h.lit.1⟩
  · cases hn

theorem snd_iaddr (R : RelFr e c fr a.tmps) {ty el : TypeId} {x i : Operand} {x' i' : Opd} {q : TypeInfo} (ho : o.op = .indexAddr ty x i) (ht : P.underlying ty = some (.slice el)) (hq : P.info? el = some q) (hx : cOpd x = some x') (hi : cOpd i = some i') {t : T} {ws : List W}
    (h : (match fr.get x', (fr.get i').int? with
    | .one (.osl k sz' off len), some n => if 0 ≤ n ∧ n < len ∧ sz' = q.size then some (.one (.ref k (off + n.toNat * q.size)), []) else none
    | .one c, some n => match c.elems with
      | some es => if 0 ≤ n then match es[n.toNat]? with
          | some e => if e.length = q.size then some (.one (.v (.pt e)), []) else none
          | none => none
        else none
      | none => none
    | _, _ => none) = some (t, ws)) : Snd P e c fr a o t ws := by
  have hcx := get_rel R hx
  have hci := get_rel R hi
  split at h
  · rename_i k sz' off len n hcs hn
    rw [hcs] at hcx
    obtain ⟨kk, hiv⟩ := T.int_rel hci hn
    split at h
    · rename_i hc
      obtain ⟨h0, h1, rfl⟩ := hc
      simp only [Option.some.injEq, Prod.mk.injEq] at h
      obtain ⟨rfl, rfl⟩ := h
      have := hcx.one_live (by simp)
      simp only [RelC] at this
      obtain ⟨k1, A, cap, hv, k2, k3⟩ := this
      obtain ⟨b, arr, ty', fz, hA, k4, k5, k6⟩ := k3 (by omega)
      subst hA
      refine Snd.plain R (v := .pointer (some ⟨b, off + n.toNat * q.size, none⟩)) ?_ (RelT.one (by simp only [RelC]; exact ⟨k1, b, rfl, k6⟩))
      simp [execOp, ho, Instr.indexAt, asIntOf, run_underlying ht, hv, hiv, h0, h1, run_sizeOf' hq, addr_add]
    · cases h
  · rename_i y n _ hcs hn
    rw [hcs] at hcx
    obtain ⟨kk, hiv⟩ := T.int_rel hci hn
    cases hel : y.elems with
    | none => simp [hel] at h
    | some es =>
      simp only [hel] at h
      split at h
      · rename_i h0
        split at h
        · rename_i el' he
          split at h
          · rename_i hlen
            simp only [Option.some.injEq, Prod.mk.injEq] at h
            obtain ⟨rfl, rfl⟩ := h
            have := C.elems_rel (hcx.one_live (C.elems_live hel)) hel
            simp only [RelV] at this
            obtain ⟨A, len, cap, sz, hv, hl, hlc, hr⟩ := this
            have hlt : n.toNat < es.length := (List.getElem?_eq_some_iff.1 he).1
            rcases hr with hr | ⟨b, of, hA, hr⟩
            · rw [hr] at hlt; simp at hlt
            · obtain ⟨e1, e2⟩ := hr.at he
              have hsz : sz = q.size := by omega
              subst hsz
              have h1 : n < (len : Int) := by omega
              refine Snd.plain R (v := .pointer (some ⟨b, of + n.toNat * q.size, none⟩)) ?_ (RelT.one (by simp only [RelC, RelV]; exact ⟨b, _, rfl, e2⟩))
              simp [execOp, ho, Instr.indexAt, asIntOf, run_underlying ht, hv, hA, hiv, h0, h1, run_sizeOf' hq, addr_add]
          · cases h
        · cases h
      · cases h
  · cases h

theorem snd_index (R : RelFr e c fr a.tmps) {ty : TypeId} {x i : Operand} {x' i' : Opd} (ho : o.op = .index ty x i) (ht : P.underlying ty = some .string) (hx : cOpd x = some x') (hi : cOpd i = some i') {t : T} {ws : List W}
    (h : (match fr.get x', (fr.get i').int? with
    | .one (.v (.s (.string s))), some n => if 0 ≤ n then match s[n.toNat]? with
        | some b => some (tInt .u8 b.toNat, [])
        | none => none
      else none
    | _, _ => none) = some (t, ws)) : Snd P e c fr a o t ws := by
  have hcx := get_rel R hx
  have hci := get_rel R hi
  split at h
  · rename_i s n hs hn
    rw [hs] at hcx
    obtain ⟨kk, hiv⟩ := T.int_rel hci hn
    split at h
    · rename_i h0
      split at h
      · rename_i b hb
        simp only [Option.some.injEq, Prod.mk.injEq] at h
        obtain ⟨rfl, rfl⟩ := h
        refine Snd.plain R (v := .int .u8 b.toNat) ?_ (RelT.mkLit (x := .int .u8 b.toNat) rfl)
        simp [execOp, ho, Instr.index, asIntOf, run_underlying ht, hcx.lit.1, hiv, h0, hb]
      · cases h
    · cases h
  · cases h

/-! ### Loads -/

theorem RelRow.vals {w : World} {G : Nat → Nat} : ∀ {cs : List V} {b o : Nat}, RelRow w G b o cs → ∃ vs : List Value, vs.length = cs.length ∧ (∀ (j : Nat) (v : Value), vs[j]? = some v → w.cell? ⟨b, o + j, none⟩ = some v) ∧ ∀ (j : Nat) (x : V) (v : Value), cs[j]? = some x → vs[j]? = some v → RelV w G x v
  | [], _, _, _ => ⟨[], rfl, by simp, by simp⟩
  | x :: cs, b, o, h => by
    simp only [RelRow] at h
    obtain ⟨⟨v, h1, h2, h3⟩, h4⟩ := h
    obtain ⟨vs, k1, k2, k3⟩ := RelRow.vals h4
    refine ⟨v :: vs, by simp [k1], fun j u hu => ?_, fun j y u hy hu => ?_⟩
    · cases j with
      | zero => simp at hu; subst hu; simpa using h2
      | succ j => have := k2 j u (by simpa using hu); rw [show o + 1 + j = o + (j + 1) by omega] at this; exact this
    · cases j with
      | zero => simp at hy hu; subst hy; subst hu; exact h3
      | succ j => exact k3 j y u (by simpa using hy) (by simpa using hu)

/-- What a load finds, out of the cells that are known. -/
theorem load_core {c : Cx} {ty : TypeId} {sz : Option Nat} (hsz : szO P ty = some sz) {b base off : Nat} {cs : List C} {t : T} (h : loadC sz cs off = some t)
    (hc : ∀ (i : Nat) (x : C), cs[i]? = some x → ∃ v, c.w.cell? ⟨b, base + i, none⟩ = some v ∧ RelC c x v) : ∃ v, (loadVar ty ⟨b, base + off, none⟩).run P c.w = .ok v c.w ∧ RelT c t v := by
  unfold szO at hsz
  split at hsz
  · rename_i d i hd hi
    simp only [Option.some.injEq] at hsz
    subst hsz
    cases hagg : isAggT P ty with
    | false =>
      simp only [hagg, loadC] at h
      cases hx : cs[off]? with
      | none => simp [hx] at h
      | some x =>
        simp [hx] at h
        subst h
        obtain ⟨v, v1, v2⟩ := hc off x hx
        exact ⟨v, run_loadVar_one hd hagg v1, RelT.one v2⟩
    | true =>
      simp only [hagg, loadC, if_true] at h
      split at h
      · rename_i hl
        simp only [Option.some.injEq] at h
        subst h
        have hex : ∀ j, j < i.size → ∃ v, c.w.cell? ⟨b, base + off + j, none⟩ = some v ∧ ∀ x, cs[off + j]? = some x → RelC c x v := by
          intro j hj
          have hlt : off + j < cs.length := by omega
          obtain ⟨v, v1, v2⟩ := hc (off + j) cs[off + j] (List.getElem?_eq_getElem hlt)
          exact ⟨v, by rw [Nat.add_assoc]; exact v1, fun x hx => by rw [List.getElem?_eq_getElem hlt, Option.some.injEq] at hx; rw [← hx]; exact v2⟩
        let vs := (List.range i.size).map fun j => if hj : j < i.size then (hex j hj).choose else undef
        have hvl : vs.length = i.size := by simp [vs]
        have hvs : ∀ (j : Nat) (v : Value), vs[j]? = some v → ∃ hj : j < i.size, v = (hex j hj).choose := by
          intro j v hv
          have hj : j < vs.length := (List.getElem?_eq_some_iff.1 hv).1
          rw [hvl] at hj
          refine ⟨hj, ?_⟩
          simp [vs, hj] at hv
          exact hv.symm
        refine ⟨.agg vs.toArray, run_loadVar_agg hd hi hagg hvl fun j v hv => ?_, ?_⟩
        · obtain ⟨hj, rfl⟩ := hvs j v hv
          rw [addr_add]
          exact (hex j hj).choose_spec.1
        · simp only [RelT]
          refine ⟨vs, rfl, RelCs.mk (by simp [hvl]; omega) fun j x v hx hv => ?_⟩
          obtain ⟨hj, rfl⟩ := hvs j v hv
          refine (hex j hj).choose_spec.2 x ?_
          rw [List.getElem?_take, if_pos hj, List.getElem?_drop] at hx
          exact hx
      · cases h
  · cases hsz

theorem BoxRel.cells {c : Cx} {b : Nat} {own : Ow} {o : Ob} (h : BoxRel c b own o) : ∀ (i : Nat) (x : C), o.cs[i]? = some x → ∃ v, c.w.cell? ⟨b, i, none⟩ = some v ∧ RelC c x v := by
  intro i x hx
  obtain ⟨arr, ty, h1, _, h3, _⟩ := h
  obtain ⟨v, v1, v2⟩ := h3 i x hx
  exact ⟨v, by simp [World.cell?, h1, v1], v2⟩

/-- The variable behind a key that fits. -/
theorem RelFr.box (R : RelFr e c fr a.tmps) {k : Key} {q : Ob} (hk : fr.look k.at = some q) (hf : k.fits q.g = true) : k.ok c ∧ (q.cs ≠ [] → ∃ own, BoxRel c (k.blk c.gh) own q) := by
  cases k with
  | loc h g =>
    simp only [Key.at, Fr.look] at hk
    have hg : q.g = g := by simp only [Key.fits, beq_iff_eq] at hf; exact hf.symm
    exact ⟨by simp only [Key.ok]; rw [R.gen]; exact (Fr.ob_loc hk hg).symm, fun hne => ⟨_, R.bxs h q hk hne⟩⟩
  | fo i =>
    simp only [Key.at, Fr.look] at hk
    exact ⟨trivial, fun hne => ⟨_, R.fos i q hk hne⟩⟩

theorem loadC_ne {sz : Option Nat} {cs : List C} {off : Nat} {t : T} (h : loadC sz cs off = some t) (hs : sz ≠ some 0) : cs ≠ [] := by
  rintro rfl
  cases sz with
  | none => simp [loadC] at h
  | some n =>
    simp only [loadC, List.length_nil] at h
    split at h
    · rename_i hl; exact hs (by congr 1; omega)
    · cases h

theorem snd_load (R : RelFr e c fr a.tmps) {ty : TypeId} {x : Operand} {x' : Opd} {sz : Option Nat} (ho : o.op = .load ty x) (hsz : szO P ty = some sz) (hs0 : sz ≠ some 0) (hx : cOpd x = some x') {t : T} {ws : List W} {ls : List Loc}
    (h : fr.ask (match fr.get x' with
    | .one (.v (.pt cs)) => .done ((loadC sz (cs.map .v) 0).map fun t => (t, []))
    | .one (.ref k off) => .one k.at fun q => if k.fits q.g then (loadC sz q.cs off).map fun t => (t, []) else none
    | _ => .done none) = some (t, ws, ls)) : Snd P e c fr a o t ws := by
  have hcx := get_rel R hx
  split at h
  · rename_i cs hcs
    rw [hcs] at hcx
    obtain ⟨h, _⟩ := ask_done h
    cases hl : loadC sz (cs.map C.v) 0 with
    | none => simp [hl] at h
    | some t' =>
      simp only [hl, Option.map_some, Option.some.injEq, Prod.mk.injEq] at h
      obtain ⟨rfl, rfl⟩ := h
      have := hcx.one_live (by simp)
      simp only [RelC, RelV] at this
      obtain ⟨b, q, hv, hr⟩ := this
      obtain ⟨v, v1, v2⟩ := load_core (c := c) hsz (b := b) (base := q) hl fun i x hx => by
        rw [List.getElem?_map] at hx
        cases hy : cs[i]? with
        | none => simp [hy] at hx
        | some y =>
          simp only [hy, Option.map_some, Option.some.injEq] at hx
          obtain ⟨v, _, k2, k3⟩ := hr.at hy
          exact ⟨v, k2, by rw [← hx]; simpa only [RelC] using k3⟩
      rw [Nat.add_zero] at v1
      refine Snd.plain R (v := v) ?_ v2
      simp [execOp, ho, hv, Instr.loadAt, Instr.sureAddr, v1]
  · rename_i k off hcs
    rw [hcs] at hcx
    obtain ⟨q, hq, h⟩ := ask_one h
    split at h
    · rename_i hf
      cases hl : loadC sz q.cs off with
      | none => simp [hl] at h
      | some t' =>
        simp only [hl, Option.map_some, Option.some.injEq, Prod.mk.injEq] at h
        obtain ⟨rfl, rfl⟩ := h
        obtain ⟨hok, hb⟩ := R.box hq hf
        obtain ⟨own, hb⟩ := hb (loadC_ne hl hs0)
        have := hcx.one_live (by simp)
        simp only [RelC] at this
        obtain ⟨_, b, hv, hbl⟩ := this
        have hbb := hbl hok
        subst hbb
        obtain ⟨v, v1, v2⟩ := load_core hsz (base := 0) hl (fun i x hx => by rw [Nat.zero_add]; exact hb.cells i x hx)
        rw [Nat.zero_add] at v1
        refine Snd.plain R (v := v) ?_ v2
        simp [execOp, ho, hv, Instr.loadAt, Instr.sureAddr, v1]
    · cases h
  · simp [Fr.ask] at h

end
end Go.Dev

/- The operations, continued: stores, new variables, lists. -/
namespace Go.Dev
open Go

variable {P : Program}

section
variable {e : Ent} {c : Cx} {fr : Fr} {a : Act} {o : Oper}

theorem RelCs.one {c : Cx} {xs : List C} {vs : List Value} (h : RelCs c xs vs) : ∀ v ∈ vs, v.oneCell' = true := fun v hv => h.flat v hv

theorem snd_store (R : RelFr e c fr a.tmps) {ty : TypeId} {x y : Operand} {x' y' : Opd} {i : TypeInfo} (ho : o.op = .store ty x y) (hi : P.info? ty = some i) (hs : i.size ≠ 0) (hx : cOpd x = some x') (hy : cOpd y = some y') {t : T} {ws : List W} {ls : List Loc}
    (h : fr.ask (match fr.get x', (fr.get y').cellsO with
    | .one (.ref k off), some cs => .one k.at fun q => if k.fits q.g ∧ cs.length = i.size ∧ off + i.size ≤ q.cs.length then some (.one .dead, [.cells k.at off cs]) else none
    | _, _ => .done none) = some (t, ws, ls)) : Snd P e c fr a o t ws := by
  have hcx := get_rel R hx
  have hcy := get_rel R hy
  split at h
  · rename_i k off cs hkx hky
    obtain ⟨q, hq, h⟩ := ask_one h
    split at h
    · rename_i hc
      obtain ⟨hf, hl, hle⟩ := hc
      simp only [Option.some.injEq, Prod.mk.injEq] at h
      obtain ⟨rfl, rfl⟩ := h
      have hr := hcy.cellsO hky
      have hlen := hr.length
      rw [hkx] at hcx
      have := hcx.one_live (by simp)
      simp only [RelC] at this
      obtain ⟨_, b, hv, hbl⟩ := this
      have hne : cs ≠ [] := by rintro rfl; exact hs (by simpa using hl.symm)
      obtain ⟨hok, arr, ty', fr', hw, h1, h2, H, R'⟩ := R.store (k := k) (o := q) (off := off) (ds := cs) hq hf (by omega) hne hr
      have hbb := hbl hok
      subst hbb
      intro fr'' hw'
      simp only [Fr.writes, hw, Option.some.injEq] at hw'
      subst hw'
      refine ⟨undef, _, .inr ⟨?_, rfl⟩, H, R', by simp [RelT]⟩
      have hsz : (a.eval y).cells.size = i.size := by rw [← Array.length_toList]; omega
      have hrun := run_storeCells_at (P := P) (k.blk c.gh) off ty' (a.eval y).cells.toList 0 arr c.w h1 (by omega) hr.one
      simp only [Nat.add_zero] at hrun
      simp only [execOp, ho, Sem.run_bind, Instr.storeAt, hv, Instr.sureAddr, storeVar, run_sizeOf' hi, Sem.run_pure, Result.andThen_ok, hsz]
      simp [hrun, Cx.row, rowPut]
    · cases h
  · simp [Fr.ask] at h

theorem writes_one {fr fr' : Fr} {w : W} (h : fr.writes [w] = some fr') : fr.write w = some fr' := by
  simp only [Fr.writes] at h
  cases hw : fr.write w with
  | none => simp [hw] at h
  | some q => simpa [hw] using h

theorem write_setb {fr fr' : Fr} {d : Nat} {q : Ob} (h : fr.write (.setb d q) = some fr') : d < fr.bx.length ∧ fr' = { fr with bx := fr.bx.set d q } := by
  simp only [Fr.write] at h
  split at h
  · rename_i hd; simp only [Option.some.injEq] at h; exact ⟨hd, h.symm⟩
  · cases h

theorem zeroC_rel {c : Cx} {ty : TypeId} {zs : List C} (h : zeroC P ty = some zs) : ∃ i z, P.info? ty = some i ∧ i.zero = some z ∧ z.cells.size = i.size ∧ RelCs c zs z.cells.toList := by
  unfold zeroC at h
  split at h
  · rename_i i hi
    split at h
    · rename_i z hz
      split at h
      · rename_i hs
        exact ⟨i, z, hi, hz, hs, allC_rel h⟩
      · cases h
    · cases h
  · cases h

/-- A variable is made. -/
theorem RelFr.made (R : RelFr e c fr a.tmps) {d ty : Nat} {q : Ob} {cs : List C} {arr : Array Value} {fr' : Fr} (hq : fr.look (.home d) = some q) (hr : RelCs c cs arr.toList)
    (hw : fr.writes [.setb d ⟨q.g + 1, ty, cs⟩] = some fr') : RelFr e (c.allocH (.cells arr ty) 0 d) fr' a.tmps ∧ RelT (c.allocH (.cells arr ty) 0 d) (.one (.ref (.loc d (q.g + 1)) 0)) (.pointer (some ⟨c.w.heap.size, 0, none⟩)) := by
  simp only [Fr.look] at hq
  obtain ⟨hd, rfl⟩ := write_setb (writes_one hw)
  have hg : c.gen d = q.g := by rw [R.gen]; exact Fr.ob_loc hq rfl
  have hlen := hr.length
  have := R.allocH arr ty 0 d ty cs hd (fun _ => rfl) (fun _ _ => ⟨rfl, by rw [← Array.length_toList]; omega⟩) (fun i x hx => by
    obtain ⟨v, v1, v2⟩ := hr.at hx
    exact ⟨v, by rw [Array.getElem?_toList] at v1; exact v1, v2⟩)
  rw [hg] at this
  refine ⟨this, RelT.one ?_⟩
  simp only [RelC, Key.le, Key.ok, Key.blk, Cx.allocH, upd_same, hg]
  exact ⟨Nat.le_refl _, c.w.heap.size, rfl, fun _ => rfl⟩

theorem snd_alloc (R : RelFr e c fr a.tmps) {ty d : Nat} {zs : List C} (ho : o.op = .alloc ty) (hz : zeroC P ty = some zs) {t : T} {ws : List W} {ls : List Loc}
    (h : fr.ask (.one (.home d) fun q => some (.one (.ref (.loc d (q.g + 1)) 0), [.setb d ⟨q.g + 1, ty, zs⟩])) = some (t, ws, ls)) : Snd P e c fr a o t ws := by
  obtain ⟨q, hq, h⟩ := ask_one h
  simp only [Option.some.injEq, Prod.mk.injEq] at h
  obtain ⟨rfl, rfl⟩ := h
  intro fr' hw
  obtain ⟨i, z, hi, hz', hs, hr⟩ := zeroC_rel (c := c) hz
  obtain ⟨R', ht⟩ := R.made hq hr hw
  refine ⟨_, _, .inl ?_, CxLe.allocH .., R', ht⟩
  simp only [execOp, ho, Sem.run_bind, Instr.alloc, run_zeroValue' hi hz', Result.andThen_ok]
  simp [newVar, newRow, newObj, Sem.run, Cx.allocH]

theorem snd_box (R : RelFr e c fr a.tmps) {ty d : Nat} {x : Operand} {x' : Opd} (ho : o.op = .box ty x) (hx : cOpd x = some x') {t : T} {ws : List W} {ls : List Loc}
    (h : fr.ask (.one (.home d) fun q => match (fr.get x').cellsO with
      | none => none
      | some cs => some (.one (.ref (.loc d (q.g + 1)) 0), [.setb d ⟨q.g + 1, ty, cs⟩])) = some (t, ws, ls)) : Snd P e c fr a o t ws := by
  obtain ⟨q, hq, h⟩ := ask_one h
  cases hc : (fr.get x').cellsO with
  | none => simp [hc] at h
  | some cs =>
    simp only [hc, Option.some.injEq, Prod.mk.injEq] at h
    obtain ⟨rfl, rfl⟩ := h
    intro fr' hw
    have hr := (get_rel R hx).cellsO hc
    obtain ⟨R', ht⟩ := R.made hq hr hw
    refine ⟨_, _, .inl ?_, CxLe.allocH .., R', ht⟩
    simp [execOp, ho, Instr.box, newVar, newRow, newObj, Sem.run, Cx.allocH]

theorem ones_rel {c : Cx} : ∀ {ts : List T} {vs : List Value} {xs : List C}, RelTs c ts vs → ones ts = some xs → RelCs c xs vs
  | [], [], xs, _, h => by simp only [ones, Option.some.injEq] at h; subst h; simp [RelCs]
  | .one x :: ts, v :: vs, xs, hr, h => by
    have hx : x ≠ .dead := by rintro rfl; simp [ones] at h
    have h' : (ones ts).map (x :: ·) = some xs := by cases x <;> first | exact h | exact absurd rfl hx
    cases ho : ones ts with
    | none => simp [ho] at h'
    | some ys =>
      simp only [ho, Option.map_some, Option.some.injEq] at h'
      subst h'
      simp only [RelTs] at hr
      simp only [RelCs]
      exact ⟨hr.1.one_live hx, ones_rel hr.2 ho⟩
  | .agg _ :: _, _, _, _, h => by simp [ones] at h
  | .tup _ :: _, _, _, _, h => by simp [ones] at h
  | [], _ :: _, _, h, _ => by simp [RelTs] at h
  | .one _ :: _, [], _, h, _ => by simp [RelTs] at h

theorem snd_mkfn (R : RelFr e c fr a.tmps) {f : Fn} {xs ys : Array Operand} {xs' ys' : List Opd} (ho : o.op = .makeFunc f xs ys) (hx : cOpds xs.toList = some xs') (hy : cOpds ys.toList = some ys') {t : T} {ws : List W}
    (h : (match ones (xs'.map fr.get), ones (ys'.map fr.get) with | some a, some b => some (.one (.fn f a b), ([] : List W)) | _, _ => none) = some (t, ws)) : Snd P e c fr a o t ws := by
  split at h
  · rename_i p q hp hq
    simp only [Option.some.injEq, Prod.mk.injEq] at h
    obtain ⟨rfl, rfl⟩ := h
    refine Snd.plain R (v := .func f ⟨xs.toList.map a.eval⟩ ⟨ys.toList.map a.eval⟩) ?_ (RelT.one (by simp only [RelC]; exact ⟨_, _, rfl, ones_rel (gets_rel R hx) hp, ones_rel (gets_rel R hy) hq⟩))
    have e1 : xs.map a.eval = ⟨xs.toList.map a.eval⟩ := by rw [← Array.toList_map]
    have e2 : ys.map a.eval = ⟨ys.toList.map a.eval⟩ := by rw [← Array.toList_map]
    simp only [execOp, ho, Instr.makeFunc, e1, e2]
    rfl
  · cases h

/-! ### Structs -/

theorem foldl_put : ∀ (vs : List Value) (k off : Nat) (arr : Array Value), off + k + vs.length ≤ arr.size →
    (vs.zipIdx k).foldl (fun cs (c, j) => cs.setIfInBounds (off + j) c) arr = rowPut arr (off + k) vs
  | [], k, off, arr, h => by simp [rowPut]
  | v :: vs, k, off, arr, h => by
    simp only [List.length_cons] at h
    simp only [List.zipIdx_cons, List.foldl_cons]
    rw [foldl_put vs (k + 1) off _ (by simp; omega)]
    apply Array.ext_getElem?
    intro i
    rw [rowPut_get (arr := arr.setIfInBounds (off + k) v) (off := off + (k + 1)) (vs := vs) (by simp; omega), rowPut_get (arr := arr) (off := off + k) (vs := v :: vs) (by simp; omega)]
    simp only [Array.getElem?_setIfInBounds, List.length_cons]
    by_cases h1 : i < off + k
    · have a1 : i < off + (k + 1) := by omega
      have a2 : ¬ off + k = i := by omega
      simp only [a1, a2, h1, if_true, if_false]
    · by_cases h2 : i = off + k
      · have a1 : i < off + (k + 1) := by omega
        have a2 : off + k = i := by omega
        simp only [a1, a2, if_true]
        have a6 : i < arr.size := by omega
        simp [a6]
      · have a1 : ¬ i < off + (k + 1) := by omega
        have a2 : ¬ off + k = i := by omega
        by_cases h3 : i < off + (k + 1) + vs.length
        · have a3 : i < off + k + (vs.length + 1) := by omega
          have a4 : i - (off + k) = (i - (off + (k + 1))) + 1 := by omega
          simp only [a1, h1, h3, a3, a4, if_true, if_false, List.getElem?_cons_succ]
        · have a3 : ¬ i < off + k + (vs.length + 1) := by omega
          simp only [a1, a2, h1, h3, a3, if_false]

theorem RelCs.splice {c : Cx} {xs ds : List C} {arr : Array Value} {vs : List Value} {off : Nat} (h : RelCs c xs arr.toList) (k : RelCs c ds vs) (hl : off + ds.length ≤ xs.length) : RelCs c (splice xs off ds) (rowPut arr off vs).toList := by
  have h1 := h.length
  have h2 := k.length
  have hs : arr.toList.length = arr.size := Array.length_toList
  refine RelCs.mk (by rw [splice_length hl, show (rowPut arr off vs).toList.length = arr.size from by rw [Array.length_toList, rowPut_size (by omega)]]; omega) fun i x v hx hv => ?_
  rw [splice_get hl] at hx
  rw [Array.getElem?_toList, rowPut_get (by omega)] at hv
  by_cases k1 : i < off
  · rw [if_pos k1] at hx hv
    obtain ⟨u, u1, u2⟩ := h.at hx
    rw [Array.getElem?_toList] at u1
    rw [u1, Option.some.injEq] at hv
    subst hv
    exact u2
  · rw [if_neg k1] at hx hv
    by_cases k2 : i < off + ds.length
    · rw [if_pos k2] at hx
      rw [if_pos (by omega)] at hv
      obtain ⟨u, u1, u2⟩ := k.at hx
      rw [u1, Option.some.injEq] at hv
      subst hv
      exact u2
    · rw [if_neg k2] at hx
      rw [if_neg (by omega)] at hv
      obtain ⟨u, u1, u2⟩ := h.at hx
      rw [Array.getElem?_toList] at u1
      rw [u1, Option.some.injEq] at hv
      subst hv
      exact u2

theorem parts_rel (R : RelFr e c fr a.tmps) {fs : Array Field} : ∀ {ps : List (Nat × Operand)} {qs : List (Nat × Nat × Opd)} {cs : List (Nat × Nat × List C)} {zs : List C} {arr : Array Value} {ds : List C},
    cParts P fs ps = some qs → partsC fr.get qs = some cs → fillC zs cs = some ds → RelCs c zs arr.toList → (places : Array (Nat × Nat)) → (∀ (j : Nat) (f : Field) (i : TypeInfo), fs[j]? = some f → P.info? f.type = some i → places[j]? = some (f.offset, i.size)) →
    ∃ arr', Instr.fill (places[·]?) arr (ps.map fun (i, x) => (i, a.eval x)) = some arr' ∧ RelCs c ds arr'.toList
  | [], qs, cs, zs, arr, ds, h1, h2, h3, h4, pl, hpl => by
    simp only [cParts, Option.some.injEq] at h1
    subst h1
    simp only [partsC, Option.some.injEq] at h2
    subst h2
    simp only [fillC, Option.some.injEq] at h3
    subst h3
    exact ⟨arr, rfl, h4⟩
  | (j, x) :: ps, qs, cs, zs, arr, ds, h1, h2, h3, h4, pl, hpl => by
    simp only [cParts] at h1
    split at h1
    · rename_i f y ys hf hy hys
      cases hi : P.info? f.type with
      | none => simp [hi] at h1
      | some i =>
        simp only [hi, Option.map_some, Option.some.injEq] at h1
        subst h1
        simp only [partsC] at h2
        split at h2
        · rename_i es ps' he hps
          simp only [Option.some.injEq] at h2
          subst h2
          simp only [fillC] at h3
          split at h3
          · rename_i hc
            obtain ⟨hc1, hc2⟩ := hc
            have hr := (get_rel R hy).cellsO he
            have hlen := hr.length
            have hzl := h4.length
            have hs : arr.toList.length = arr.size := Array.length_toList
            have hvs : (a.eval x).cells.toList.length = (a.eval x).cells.size := Array.length_toList
            obtain ⟨arr', k1, k2⟩ := parts_rel R (arr := rowPut arr f.offset (a.eval x).cells.toList) hys hps h3 (h4.splice hr (by omega)) pl hpl
            refine ⟨arr', ?_, k2⟩
            simp only [List.map_cons, Instr.fill, hpl j f i hf hi]
            rw [if_neg (by simp; omega)]
            have hfold := foldl_put (a.eval x).cells.toList 0 f.offset arr (by omega)
            simp only [Nat.add_zero] at hfold
            rw [← Array.foldl_toList, Array.toList_zipIdx, hfold]
            exact k1
          · cases h3
        · cases h2
    · cases h1

theorem mapM_places {fs : Array Field} (w : World) (h : ∀ f : Field, f ∈ fs.toList → (P.info? f.type).isSome = true) : ∃ pl : Array (Nat × Nat), (fs.mapM (fun (f : Field) => (do pure (f.offset, ← sizeOf f.type) : Sem (Nat × Nat)))).run P w = .ok pl w ∧ ∀ (j : Nat) (f : Field) (i : TypeInfo), fs[j]? = some f → P.info? f.type = some i → pl[j]? = some (f.offset, i.size) := by
  have key : ∀ l : List Field, (∀ f : Field, f ∈ l → (P.info? f.type).isSome = true) → ∃ pl : List (Nat × Nat), (l.mapM (fun (f : Field) => (do pure (f.offset, ← sizeOf f.type) : Sem (Nat × Nat)))).run P w = .ok pl w ∧ ∀ (j : Nat) (f : Field) (i : TypeInfo), l[j]? = some f → P.info? f.type = some i → pl[j]? = some (f.offset, i.size) := by
    intro l
    induction l with
    | nil => intro _; exact ⟨[], by simp [List.mapM_nil], by simp⟩
    | cons x l ih =>
      intro hh
      obtain ⟨pl, p1, p2⟩ := ih fun f hf => hh f (by simp [hf])
      obtain ⟨q, hq⟩ := Option.isSome_iff_exists.1 (hh x (by simp))
      refine ⟨(x.offset, q.size) :: pl, ?_, fun j f i hj hi => ?_⟩
      · rw [List.mapM_cons]
        simp only [Sem.run_bind, run_sizeOf' hq, Result.andThen_ok, Sem.run_pure, p1]
      · cases j with
        | zero => simp at hj; subst hj; rw [hq] at hi; cases hi; rfl
        | succ j => exact p2 j f i (by simpa using hj) hi
  obtain ⟨pl, p1, p2⟩ := key fs.toList h
  refine ⟨pl.toArray, ?_, fun j f i hj hi => by simpa using p2 j f i (by simpa using hj) hi⟩
  rw [Array.mapM_eq_mapM_toList, Sem.run_map, p1]
  rfl

theorem snd_build (R : RelFr e c fr a.tmps) {ty : TypeId} {ps : Array (Nat × Operand)} {fs : Array Field} {zs : List C} {qs : List (Nat × Nat × Opd)} (ho : o.op = .build ty ps) (ht : P.underlying ty = some (.struct fs)) (hz : zeroC P ty = some zs) (hq : cParts P fs ps.toList = some qs)
    (hfs : ∀ f : Field, f ∈ fs.toList → (P.info? f.type).isSome = true) {t : T} {ws : List W}
    (h : (match partsC fr.get qs with
    | none => none
    | some ps => (fillC zs ps).map fun cs => (T.agg cs, ([] : List W))) = some (t, ws)) : Snd P e c fr a o t ws := by
  obtain ⟨i, z, hi, hz', hs, hr⟩ := zeroC_rel (c := c) hz
  cases hp : partsC fr.get qs with
  | none => simp [hp] at h
  | some cs =>
    simp only [hp] at h
    cases hf : fillC zs cs with
    | none => simp [hf] at h
    | some ds =>
      simp only [hf, Option.map_some, Option.some.injEq, Prod.mk.injEq] at h
      obtain ⟨rfl, rfl⟩ := h
      obtain ⟨pl, p1, p2⟩ := mapM_places (P := P) c.w hfs
      obtain ⟨arr', k1, k2⟩ := parts_rel R hq hp hf hr pl p2
      refine Snd.plain R (v := .agg arr') ?_ (by simp only [RelT]; exact ⟨arr'.toList, by simp, k2⟩)
      have hk : Instr.fill (pl[·]?) z.cells (Array.map (fun x => (x.1, a.eval x.2)) ps).toList = some arr' := by
        rw [Array.toList_map]; exact k1
      simp only [execOp, ho, Sem.run_bind, Instr.build, run_zeroValue' hi hz', Result.andThen_ok, run_underlying ht, p1, hk]
      rfl

end
end Go.Dev

/- The operations, continued: lists. -/
namespace Go.Dev
open Go

variable {P : Program}

/-- Values row by row. -/
def RelVs (w : World) (G : Nat → Nat) : List V → List Value → Prop
  | [], [] => True
  | x :: xs, v :: vs => RelV w G x v ∧ RelVs w G xs vs
  | _, _ => False

theorem RelVs.length {w : World} {G : Nat → Nat} : ∀ {xs : List V} {vs : List Value}, RelVs w G xs vs → xs.length = vs.length
  | [], [], _ => rfl
  | _ :: _, _ :: _, h => by simp only [RelVs] at h; simp [RelVs.length h.2]
  | [], _ :: _, h => by simp [RelVs] at h
  | _ :: _, [], h => by simp [RelVs] at h

theorem RelVs.at {w : World} {G : Nat → Nat} : ∀ {xs : List V} {vs : List Value}, RelVs w G xs vs → ∀ {i : Nat} {x : V}, xs[i]? = some x → ∃ v, vs[i]? = some v ∧ RelV w G x v
  | [], [], _, i, x, hx => by simp at hx
  | x :: xs, v :: vs, h, i, y, hy => by
    simp only [RelVs] at h
    cases i with
    | zero => simp at hy; subst hy; exact ⟨v, rfl, h.1⟩
    | succ i => simpa using RelVs.at h.2 (i := i) (x := y) (by simpa using hy)
  | [], _ :: _, h, _, _, _ => by simp [RelVs] at h
  | _ :: _, [], h, _, _, _ => by simp [RelVs] at h

theorem RelVs.append {w : World} {G : Nat → Nat} : ∀ {xs ys : List V} {us vs : List Value}, RelVs w G xs us → RelVs w G ys vs → RelVs w G (xs ++ ys) (us ++ vs)
  | [], _, [], _, _, h => by simpa using h
  | _ :: _, _, _ :: _, _, h, k => by simp only [RelVs] at h; simp only [List.cons_append, RelVs]; exact ⟨h.1, RelVs.append h.2 k⟩
  | [], _, _ :: _, _, h, _ => by simp [RelVs] at h
  | _ :: _, _, [], _, h, _ => by simp [RelVs] at h

theorem RelVs.mono {w w' : World} {G G' : Nat → Nat} (H : RdLe w G w' G') : ∀ {xs : List V} {vs : List Value}, RelVs w G xs vs → RelVs w' G' xs vs
  | [], [], _ => by simp [RelVs]
  | x :: xs, v :: vs, h => by simp only [RelVs] at h ⊢; exact ⟨RelV.mono H x v h.1, RelVs.mono H h.2⟩
  | [], _ :: _, h => by simp [RelVs] at h
  | _ :: _, [], h => by simp [RelVs] at h

theorem toV_rel {c : Cx} {x : C} {y : V} {v : Value} (h : RelC c x v) (hx : x.toV = some y) : RelV c.w c.gh.G y v := by
  cases x with
  | v z => simp only [C.toV, Option.some.injEq] at hx; subst hx; simpa only [RelC] using h
  | esl =>
    simp only [C.toV, Option.some.injEq] at hx
    subst hx
    simp only [RelC] at h
    obtain ⟨A, rfl⟩ := h
    simp only [RelV]
    exact ⟨A, 0, 0, 0, rfl, rfl, Nat.le_refl _, .inl trivial⟩
  | lin a g ty ys => simp only [C.toV, Option.some.injEq] at hx; subst hx; simp only [RelC] at h; exact h.1
  | _ => simp [C.toV] at hx

theorem toVs_rel {c : Cx} : ∀ {cs : List C} {xs : List V} {vs : List Value}, RelCs c cs vs → toVs cs = some xs → RelVs c.w c.gh.G xs vs
  | [], xs, [], _, h => by simp only [toVs, Option.some.injEq] at h; subst h; simp [RelVs]
  | x :: cs, xs, v :: vs, hr, h => by
    simp only [toVs] at h
    split at h
    · rename_i y ys h1 h2
      simp only [Option.some.injEq] at h
      subst h
      simp only [RelCs] at hr
      simp only [RelVs]
      exact ⟨toV_rel hr.1 h1, toVs_rel hr.2 h2⟩
    · cases h
  | [], _, _ :: _, h, _ => by simp [RelCs] at h
  | _ :: _, _, [], h, _ => by simp [RelCs] at h

theorem T.toVs_rel {c : Cx} {t : T} {v : Value} {xs : List V} (h : RelT c t v) (ht : t.toVs = some xs) : RelVs c.w c.gh.G xs v.cells.toList := by
  cases t with
  | one x =>
    simp only [T.toVs] at ht
    have hx : x ≠ .dead := by rintro rfl; simp [Dev.toVs, C.toV] at ht
    have hr := h.one_live hx
    rw [flat_cells hr.flat]
    exact Dev.toVs_rel (by simp only [RelCs]; exact ⟨hr, trivial⟩) ht
  | agg cs =>
    simp only [T.toVs] at ht
    simp only [RelT] at h
    obtain ⟨arr, rfl, r⟩ := h
    exact Dev.toVs_rel r ht
  | tup _ => simp [T.toVs] at ht

section
variable {e : Ent} {c : Cx} {fr : Fr} {a : Act} {o : Oper}

/-- The parts of a list literal. -/
theorem row_rel (R : RelFr e c fr a.tmps) {sz : Nat} : ∀ {ps : List (Nat × Operand)} {n : Nat} {xs : List Opd} {es : List (List V)}, cRow n ps = some xs → rowsV sz (xs.map fr.get) = some es →
    RelVs c.w c.gh.G es.flatten ((ps.map fun p => (a.eval p.2).cells.toList).flatten) ∧ (∀ x ∈ es, x.length = sz) ∧ es.length = ps.length ∧ (∀ p ∈ ps, (a.eval p.2).cells.size = sz) ∧ xs.length = ps.length
  | [], n, xs, es, h1, h2 => by
    simp only [cRow, Option.some.injEq] at h1
    subst h1
    simp only [List.map_nil, rowsV, Option.some.injEq] at h2
    subst h2
    simp [RelVs]
  | (i, x) :: ps, n, xs, es, h1, h2 => by
    simp only [cRow] at h1
    split at h1
    · split at h1
      · rename_i y ys hy hys
        simp only [Option.some.injEq] at h1
        subst h1
        simp only [List.map_cons, rowsV] at h2
        split at h2
        · rename_i u us hu hus
          split at h2
          · rename_i hl
            simp only [Option.some.injEq] at h2
            subst h2
            have hr := T.toVs_rel (get_rel R hy) hu
            obtain ⟨k1, k2, k3, k4, k5⟩ := row_rel R hys hus
            have hlen := hr.length
            have hs : (a.eval x).cells.toList.length = (a.eval x).cells.size := Array.length_toList
            refine ⟨?_, ?_, by simp [k3], ?_, by simp [k5]⟩
            · simp only [List.flatten_cons, List.map_cons]
              exact hr.append k1
            · intro z hz
              rcases List.mem_cons.1 hz with rfl | hz
              · exact hl
              · exact k2 z hz
            · intro p hp
              rcases List.mem_cons.1 hp with rfl | hp
              · show (a.eval x).cells.size = sz
                omega
              · exact k4 p hp
          · cases h2
        · cases h2
      · cases h1
    · cases h1

theorem cRow_idx : ∀ {ps : List (Nat × Operand)} {n : Nat} {xs : List Opd}, cRow n ps = some xs → ∀ (j : Nat) (p : Nat × Operand), ps[j]? = some p → p.1 = n + j
  | [], _, _, _, j, p, hp => by simp at hp
  | (i, x) :: ps, n, xs, h, j, p, hp => by
    simp only [cRow] at h
    split at h
    · rename_i hi
      split at h
      · rename_i y ys hy hys
        cases j with
        | zero => simp at hp; subst hp; simpa using hi
        | succ j =>
          have := cRow_idx hys j p (by simpa using hp)
          omega
      · cases h
    · cases h

theorem fill_rows {sz : Nat} (ev : Operand → Value) : ∀ (ps : List (Nat × Operand)) (n : Nat) (arr : Array Value), (∀ (j : Nat) (p : Nat × Operand), ps[j]? = some p → p.1 = n + j) → (∀ p ∈ ps, (ev p.2).cells.size = sz) → (n + ps.length) * sz = arr.size →
    Instr.fill (fun i => some (i * sz, sz)) arr (ps.map fun (i, x) => (i, ev x)) = some (arr.toList.take (n * sz) ++ (ps.map fun p => (ev p.2).cells.toList).flatten).toArray
  | [], n, arr, _, _, h => by
    simp only [List.map_nil, Instr.fill, List.flatten_nil, List.append_nil, Option.some.injEq]
    have : arr.toList.length = arr.size := Array.length_toList
    rw [List.take_of_length_le (by simp at h; omega)]
  | (i, x) :: ps, n, arr, h1, h2, h3 => by
    have hi : i = n := by simpa using h1 0 (i, x) rfl
    subst hi
    have hx : (ev x).cells.size = sz := h2 (i, x) (by simp)
    have hxl : (ev x).cells.toList.length = (ev x).cells.size := Array.length_toList
    have hal : arr.toList.length = arr.size := Array.length_toList
    have hsz : i * sz + sz ≤ arr.size := by
      rw [← h3]
      simp only [List.length_cons]
      rw [show i + (ps.length + 1) = i + 1 + ps.length by omega, Nat.add_mul, Nat.add_mul]
      omega
    simp only [List.map_cons, Instr.fill]
    rw [if_neg (by simp; omega)]
    have hfold := foldl_put (ev x).cells.toList 0 (i * sz) arr (by omega)
    simp only [Nat.add_zero] at hfold
    rw [← Array.foldl_toList, Array.toList_zipIdx, hfold]
    rw [fill_rows ev ps (i + 1) (rowPut arr (i * sz) (ev x).cells.toList) (fun j p hp => by have := h1 (j + 1) p (by simpa using hp); omega) (fun p hp => h2 p (by simp [hp])) (by rw [rowPut_size (by omega), ← h3]; simp only [List.length_cons]; congr 1; omega)]
    congr 2
    simp only [List.flatten_cons, ← List.append_assoc]
    congr 1
    simp only [rowPut, List.append_assoc]
    rw [List.take_append, List.take_take]
    have e1 : min ((i + 1) * sz) (i * sz) = i * sz := by rw [Nat.add_mul]; omega
    have e2 : (List.take (i * sz) arr.toList).length = i * sz := by simp; omega
    have e3 : (i + 1) * sz - i * sz = (ev x).cells.toList.length := by rw [Nat.add_mul]; omega
    rw [e1, e2, e3, List.take_append_of_le_length (Nat.le_refl _), List.take_length]

theorem snd_bsl (R : RelFr e c fr a.tmps) {ty el n : Nat} {ps : Array (Nat × Operand)} {xs : List Opd} {i : TypeInfo} {own : Bool} {zs : List C} (ho : o.op = .buildSlice ty n ps) (ht : P.underlying ty = some (.slice el)) (hi : P.info? el = some i) (hp : cRow 0 ps.toList = some xs) (hn : xs.length = n) (hb : n * i.size ≤ 2 ^ 24)
    (hz : zeroC P el = some zs) {t : T} {ws : List W} {ls : List Loc}
    (h : fr.ask (match rowsV i.size (xs.map fr.get) with
    | none => .done none
    | some es => if own then match o.dst with
        | some d => .one (.home d) fun q => some (.one (.osl (.loc d (q.g + 1)) i.size 0 es.length), [.setb d ⟨q.g + 1, el, es.flatten.map .v⟩])
        | none => .done none
      else .done (some (bslOut es, []))) = some (t, ws, ls)) : Snd P e c fr a o t ws := by
  cases hr : rowsV i.size (xs.map fr.get) with
  | none => simp [hr, Fr.ask] at h
  | some es =>
    simp only [hr] at h
    obtain ⟨k1, k2, k3, k4, k5⟩ := row_rel R hp hr
    obtain ⟨i', z, hi', hz', hzs, _⟩ := zeroC_rel (c := c) hz
    rw [hi] at hi'
    cases hi'
    -- the machine's run
    have hnl : ps.toList.length = n := by omega
    let vs := (ps.toList.map fun p => (a.eval p.2).cells.toList).flatten
    have hvl : vs.length = n * i.size := by
      have := k1.length
      have hfl : es.flatten.length = es.length * i.size := by
        clear k1 k3 hr h this
        induction es with
        | nil => simp
        | cons x es ih =>
          simp only [List.flatten_cons, List.length_append, List.length_cons]
          rw [ih (fun y hy => k2 y (by simp [hy])), k2 x (by simp), Nat.add_mul]
          omega
      show ((ps.toList.map fun p => (a.eval p.2).cells.toList).flatten).length = _
      rw [← this, hfl, k3, hnl]
    have hrun : (execOp a.eval o).run P c.w = .ok (.value (.slice (some ⟨c.w.heap.size, 0, none⟩) n n)) (c.w.alloc (.cells vs.toArray el)) := by
      have hfill : ∀ arr : Array Value, arr.size = n * i.size → Instr.fill (fun j => some (j * i.size, i.size)) arr (Array.map (fun x => (x.1, a.eval x.2)) ps).toList = some vs.toArray := by
        intro arr harr
        rw [Array.toList_map]
        have := fill_rows (sz := i.size) a.eval ps.toList 0 arr (cRow_idx hp) k4 (by rw [Nat.zero_add, hnl, harr])
        simpa using this
      simp only [execOp, ho, Sem.run_bind, Instr.buildSlice, run_underlying ht, Result.andThen_ok, run_sizeOf' hi]
      rw [if_neg (by omega)]
      by_cases hn0 : n * i.size = 0
      · simp only [if_pos hn0, Sem.run_bind, Sem.run_pure, Result.andThen_ok]
        rw [hfill _ (by simp)]
        simp [newRow, newObj, Sem.run]
      · simp only [if_neg hn0, Sem.run_bind, Sem.run_pure, Result.andThen_ok, run_zeroValue' hi hz']
        rw [hfill _ (by simp)]
        simp [newRow, newObj, Sem.run]
    cases own with
    | true =>
      simp only [if_true] at h
      cases hd : o.dst with
      | none => simp [hd, Fr.ask] at h
      | some d =>
        simp only [hd] at h
        obtain ⟨q, hq, h⟩ := ask_one h
        simp only [Option.some.injEq, Prod.mk.injEq] at h
        obtain ⟨rfl, rfl⟩ := h
        intro fr' hw
        have hcs : RelCs c (es.flatten.map C.v) vs.toArray.toList := by
          refine RelCs.mk (by rw [List.length_map]; exact k1.length) fun j x v hx hv => ?_
          rw [List.getElem?_map] at hx
          cases hy : es.flatten[j]? with
          | none => simp [hy] at hx
          | some y =>
            simp only [hy, Option.map_some, Option.some.injEq] at hx
            obtain ⟨u, u1, u2⟩ := k1.at hy
            simp only at hv
            rw [u1, Option.some.injEq] at hv
            rw [← hx, ← hv]
            simpa only [RelC] using u2
        obtain ⟨R', ht'⟩ := R.made (ty := el) hq hcs hw
        refine ⟨_, _, .inl hrun, CxLe.allocH .., R', RelT.one ?_⟩
        have := ht'.one_live (by simp)
        simp only [RelC] at this ⊢
        obtain ⟨j1, b, j2, j3⟩ := this
        simp only [Value.pointer.injEq, Option.some.injEq, Addr.mk.injEq] at j2
        exact ⟨j1, _, n, by rw [k3, hnl], by omega, fun _ => ⟨c.w.heap.size, vs.toArray, el, (0, 0), rfl, heap_alloc_new .., by simp [hvl], fun k => by rw [← j3 k]; exact j2.1⟩⟩
    | false =>
      simp only [Bool.false_eq_true, if_false] at h
      obtain ⟨h, _⟩ := ask_done h
      simp only [Option.some.injEq, Prod.mk.injEq] at h
      obtain ⟨rfl, rfl⟩ := h
      intro fr' hw
      simp only [Fr.writes, Option.some.injEq] at hw
      subst hw
      have H := CxLe.alloc c (.cells vs.toArray el) vs.length
      refine ⟨_, _, .inl hrun, H, R.alloc _ _, ?_⟩
      cases es with
      | nil =>
        refine RelT.one ?_
        simp only [List.length_nil] at k3
        obtain rfl : n = 0 := by omega
        simp only [RelC]
        exact ⟨_, rfl⟩
      | cons e0 es0 =>
      refine RelT.one ?_
      generalize e0 :: es0 = es at *
      simp only [RelC, RelV]
      refine ⟨some ⟨c.w.heap.size, 0, none⟩, n, n, i.size, rfl, by omega, Nat.le_refl _, .inr ⟨c.w.heap.size, 0, rfl, RelRows.mk k2 (RelRow.mk fun j x hx => ?_)⟩⟩
      obtain ⟨v, v1, v2⟩ := k1.at hx
      have hj : j < vs.length := (List.getElem?_eq_some_iff.1 v1).1
      refine ⟨v, by simp only [Cx.alloc, upd_same]; omega, ?_, RelV.mono H.rd x v v2⟩
      simp only [Cx.alloc, Nat.zero_add, World.cell?_alloc_new]
      simpa using v1

/-! ### Parts of strings and lists -/

theorem optInt_rel (R : RelFr e c fr a.tmps) {x : Option Operand} {y : Option Opd} {l : Option Int} (h : cOptOpd x = some y) (hl : optInt (y.map fr.get) = some l) :
    (x.map a.eval = none ∧ l = none) ∨ ∃ k n, x.map a.eval = some (.int k n) ∧ l = some n := by
  cases x with
  | none =>
    simp only [cOptOpd, Option.some.injEq] at h
    subst h
    simp only [Option.map_none, optInt, Option.some.injEq] at hl
    exact .inl ⟨rfl, hl.symm⟩
  | some x =>
    simp only [cOptOpd] at h
    cases hx : cOpd x with
    | none => simp [hx] at h
    | some y' =>
      simp only [hx, Option.map_some, Option.some.injEq] at h
      subst h
      simp only [Option.map_some, optInt] at hl
      cases hn : (fr.get y').int? with
      | none => simp [hn] at hl
      | some n =>
        simp only [hn, Option.map_some, Option.some.injEq] at hl
        obtain ⟨k, hk⟩ := T.int_rel (get_rel R hx) hn
        exact .inr ⟨k, n, by simp [hk], hl.symm⟩

theorem run_sliceBounds {len cap : Nat} {lo hi : Option Value} {l h : Option Int} (b : Bool) (hl : (lo = none ∧ l = none) ∨ ∃ k n, lo = some (.int k n) ∧ l = some n) (hh : (hi = none ∧ h = none) ∨ ∃ k n, hi = some (.int k n) ∧ h = some n)
    (h0 : 0 ≤ l.getD 0) (h1 : l.getD 0 ≤ h.getD len) (h2 : h.getD len ≤ cap) (w : World) : (Instr.sliceBounds b len cap lo hi none).run P w = .ok ((l.getD 0).toNat, (h.getD len).toNat, cap) w := by
  rcases hl with ⟨rfl, rfl⟩ | ⟨k, n, rfl, rfl⟩ <;> rcases hh with ⟨rfl, rfl⟩ | ⟨k', n', rfl, rfl⟩ <;> simp only [Option.getD_none, Option.getD_some] at h0 h1 h2 ⊢
  · simp [Instr.sliceBounds]
  · have e1 : 0 ≤ n' ∧ n' ≤ (cap : Int) := by omega
    simp [Instr.sliceBounds, Instr.sliceBound, asIntOf, e1]
  · have e1 : 0 ≤ n ∧ n ≤ (len : Int) := by omega
    simp [Instr.sliceBounds, Instr.sliceBound, asIntOf, e1]
  · have e1 : 0 ≤ n' ∧ n' ≤ (cap : Int) := by omega
    have e2 : 0 ≤ n ∧ n ≤ (n'.toNat : Int) := by omega
    simp [Instr.sliceBounds, Instr.sliceBound, asIntOf, e1]
    simp [e2.1]
    omega

theorem snd_sliceS (R : RelFr e c fr a.tmps) {ty : TypeId} {x : Operand} {lo hi : Option Operand} {x' : Opd} {lo' hi' : Option Opd} (ho : o.op = .slice ty x lo hi none) (ht : P.underlying ty = some .string) (hx : cOpd x = some x') (hlo : cOptOpd lo = some lo') (hhi : cOptOpd hi = some hi') {t : T} {ws : List W}
    (h : (match optInt (lo'.map fr.get), optInt (hi'.map fr.get), fr.get x' with
    | some l, some h, .one (.v (.s (.string s))) =>
      if 0 ≤ l.getD 0 ∧ l.getD 0 ≤ h.getD s.size ∧ h.getD s.size ≤ s.size then some (tS (s.extract (l.getD 0).toNat (h.getD s.size).toNat), ([] : List W)) else none
    | _, _, _ => none) = some (t, ws)) : Snd P e c fr a o t ws := by
  have hcx := get_rel R hx
  split at h
  · rename_i l h' s hl hh hs
    rw [hs] at hcx
    split at h
    · rename_i hc
      simp only [Option.some.injEq, Prod.mk.injEq] at h
      obtain ⟨rfl, rfl⟩ := h
      have hb := run_sliceBounds (P := P) (cap := s.size) false (optInt_rel R hlo hl) (optInt_rel R hhi hh) hc.1 hc.2.1 hc.2.2 c.w
      refine Snd.plain R (v := .string (s.extract (l.getD 0).toNat (h'.getD s.size).toNat)) ?_ (RelT.mkLit (x := .string _) rfl)
      simp only [execOp, ho, Sem.run_bind, Instr.sliceAt, run_underlying ht, Result.andThen_ok, Instr.slice, hcx.lit.1, Option.map_none, Option.isSome_none, Bool.false_eq_true, if_false, hb]
      rfl
    · cases h
  · cases h

theorem snd_sliceL (R : RelFr e c fr a.tmps) {ty el : TypeId} {q : TypeInfo} {x : Operand} {lo hi mx : Option Operand} {x' : Opd} {lo' hi' mx' : Option Opd} (ho : o.op = .slice ty x lo hi mx) (ht : P.underlying ty = some (.slice el)) (hq : P.info? el = some q) (hx : cOpd x = some x') (hlo : cOptOpd lo = some lo') (hhi : cOptOpd hi = some hi') (hmx : cOptOpd mx = some mx') {t : T} {ws : List W}
    (h : (match optInt (lo'.map fr.get), optInt (hi'.map fr.get), optInt (mx'.map fr.get) with
    | some l, some h, some none => match fr.get x' with
      | .one (.osl k sz' off len) =>
        if 0 ≤ l.getD 0 ∧ l.getD 0 ≤ h.getD len ∧ h.getD len ≤ len ∧ sz' = q.size then some (.one (.osl k q.size (off + (l.getD 0).toNat * q.size) ((h.getD len).toNat - (l.getD 0).toNat)), ([] : List W)) else none
      | .one c => match c.elems with
        | some es => if es.all (·.length == q.size) then (sliceV es l h).map fun r => (.one (.v (.sl r)), []) else none
        | none => none
      | _ => none
    | _, _, _ => none) = some (t, ws)) : Snd P e c fr a o t ws := by
  have hcx := get_rel R hx
  split at h
  · rename_i l h' hl hh hm
    have hm' : mx.map a.eval = none := by
      rcases optInt_rel R hmx hm with ⟨k, _⟩ | ⟨_, _, _, k⟩
      · exact k
      · cases k
    split at h
    · rename_i k sz' off len hs
      rw [hs] at hcx
      split at h
      · rename_i hc
        obtain ⟨c0, c1, c2, rfl⟩ := hc
        simp only [Option.some.injEq, Prod.mk.injEq] at h
        obtain ⟨rfl, rfl⟩ := h
        have := hcx.one_live (by simp)
        simp only [RelC] at this
        obtain ⟨k1, A, cap, hv, k2, k3⟩ := this
        have hb := run_sliceBounds (P := P) (cap := cap) true (optInt_rel R hlo hl) (optInt_rel R hhi hh) c0 c1 (by omega) c.w
        refine Snd.plain R (v := .slice (if cap = (l.getD 0).toNat then A else A.map (·.add ((l.getD 0).toNat * q.size))) ((h'.getD len).toNat - (l.getD 0).toNat) (cap - (l.getD 0).toNat)) ?_ (RelT.one ?_)
        · simp only [execOp, ho, Sem.run_bind, Instr.sliceAt, run_underlying ht, Result.andThen_ok, Instr.slice, hv, hm', hb, run_sizeOf' hq]
          rfl
        · simp only [RelC]
          refine ⟨k1, _, _, rfl, by omega, fun hp => ?_⟩
          obtain ⟨b, arr, ty', fz, hA, k4, k5, k6⟩ := k3 (by omega)
          rw [if_neg (by omega), hA]
          refine ⟨b, arr, ty', fz, by simp [addr_add], k4, ?_, k6⟩
          have : (l.getD 0).toNat * q.size + (cap - (l.getD 0).toNat) * q.size = cap * q.size := by rw [← Nat.add_mul]; congr 1; omega
          omega
      · cases h
    · rename_i y _ hs
      rw [hs] at hcx
      cases hel : y.elems with
      | none => simp [hel] at h
      | some es =>
        simp only [hel] at h
        split at h
        · rename_i hall
          unfold sliceV at h
          split at h
          · rename_i hc
            obtain ⟨c0, c1, c2⟩ := hc
            simp only [Option.map_some, Option.some.injEq, Prod.mk.injEq] at h
            obtain ⟨rfl, rfl⟩ := h
            have := C.elems_rel (hcx.one_live (C.elems_live hel)) hel
            simp only [RelV] at this
            obtain ⟨A, len, cap, sz, hv, hlen, k2, hr⟩ := this
            subst hlen
            have hb := run_sliceBounds (P := P) (cap := cap) true (optInt_rel R hlo hl) (optInt_rel R hhi hh) c0 c1 (by omega) c.w
            refine Snd.plain R (v := .slice (if cap = (l.getD 0).toNat then A else A.map (·.add ((l.getD 0).toNat * q.size))) ((h'.getD es.length).toNat - (l.getD 0).toNat) (cap - (l.getD 0).toNat)) ?_ (RelT.one ?_)
            · simp only [execOp, ho, Sem.run_bind, Instr.sliceAt, run_underlying ht, Result.andThen_ok, Instr.slice, hv, hm', hb, run_sizeOf' hq]
              rfl
            · simp only [RelC, RelV]
              have hln : ((es.take (h'.getD es.length).toNat).drop (l.getD 0).toNat).length = (h'.getD es.length).toNat - (l.getD 0).toNat := by simp; omega
              refine ⟨_, _, _, q.size, rfl, hln.symm, by omega, ?_⟩
              by_cases hz : (h'.getD es.length).toNat - (l.getD 0).toNat = 0
              · left; exact List.eq_nil_of_length_eq_zero (by omega)
              · right
                rcases hr with rfl | ⟨b, of, hA, hr⟩
                · simp only [List.length_nil] at c1 c2 hz; omega
                · rw [if_neg (by omega), hA]
                  obtain ⟨r1, r2, r3⟩ := hr.flat
                  have hsz : ∀ x ∈ es, x.length = q.size := by simpa using hall
                  refine ⟨b, of + (l.getD 0).toNat * q.size, by simp [addr_add], RelRows.mk (fun x hx => hsz x (List.mem_of_mem_take (List.mem_of_mem_drop hx))) ?_⟩
                  have hfl : ∀ (n : Nat) (xs : List (List V)), (∀ x ∈ xs, x.length = q.size) → (xs.drop n).flatten = xs.flatten.drop (n * q.size) := by
                    intro n
                    induction n with
                    | zero => intro xs _; simp
                    | succ n ih =>
                      intro xs hx
                      cases xs with
                      | nil => simp
                      | cons x xs =>
                        simp only [List.drop_succ_cons, List.flatten_cons]
                        rw [ih xs (fun y hy => hx y (by simp [hy]))]
                        rw [show (n + 1) * q.size = x.length + n * q.size by rw [hx x (by simp), Nat.add_mul]; omega, ← List.drop_drop, List.drop_left]
                  have hft : ∀ (n : Nat) (xs : List (List V)), (∀ x ∈ xs, x.length = q.size) → (xs.take n).flatten = xs.flatten.take (n * q.size) := by
                    intro n
                    induction n with
                    | zero => intro xs _; simp
                    | succ n ih =>
                      intro xs hx
                      cases xs with
                      | nil => simp
                      | cons x xs =>
                        simp only [List.take_succ_cons, List.flatten_cons]
                        rw [ih xs (fun y hy => hx y (by simp [hy]))]
                        rw [show (n + 1) * q.size = x.length + n * q.size by rw [hx x (by simp), Nat.add_mul]; omega, List.take_append, List.take_of_length_le (l := x) (i := x.length + n * q.size) (by omega), show x.length + n * q.size - x.length = n * q.size by omega]
                  rw [hfl _ _ (fun x hx => hsz x (List.mem_of_mem_take hx)), hft _ _ hsz]
                  exact (r1.take).drop
          · simp at h
        · cases h
    · cases h
  · cases h

end
end Go.Dev

/- The operations, continued: comparisons of pointers, conversions, small builtins. -/
namespace Go.Dev
open Go

variable {P : Program}

section
variable {e : Ent} {c : Cx} {fr : Fr} {a : Act} {o : Oper}

theorem run_equal_ptr {ty el : TypeId} {i : TypeInfo} (ht : P.underlying ty = some (.pointer el)) (hi : P.info? el = some i) (hs : i.size ≠ 0) (w : World) :
    (Op.equal ty (.pointer none) (.pointer none)).run P w = .ok true w ∧ (∀ b, (Op.equal ty (.pointer (some b)) (.pointer none)).run P w = .ok false w) ∧ (∀ b, (Op.equal ty (.pointer none) (.pointer (some b))).run P w = .ok false w) ∧ ∀ b, (Op.equal ty (.pointer (some b)) (.pointer (some b))).run P w = .ok true w := by
  have key : ∀ d x y, (Op.equalIn (d + 1) ty (.pointer x) (.pointer y)).run P w = (match x, y with
      | none, y => (pure y.isNone : Sem Bool)
      | some _, none => pure false
      | some a, some b => do if (← sizeOf el) ≠ 0 then sameAddr a b else if a == b then pure true else pure ((← choose .zeroSizeEq) = 1)).run P w := by
    intro d x y
    cases x <;> cases y <;> simp [Op.equalIn, run_underlying ht]
  refine ⟨key 9999 none none, fun b => key 9999 (some b) none, fun b => key 9999 none (some b), fun b => ?_⟩
  rw [show Op.equal ty (.pointer (some b)) (.pointer (some b)) = Op.equalIn (9999 + 1) ty (.pointer (some b)) (.pointer (some b)) from rfl, key]
  simp [run_sizeOf' hi, hs, sameAddr]

theorem run_peq {ty el : TypeId} {i : TypeInfo} (ht : P.underlying ty = some (.pointer el)) (hi : P.info? el = some i) (hs : i.size ≠ 0) {x y : Option Addr} {r : Bool} (hr : (Op.equal ty (.pointer x) (.pointer y)).run P c.w = .ok r c.w) {neq : Bool} {p q : Operand} {ty' : TypeId} (ho : o.op = .binOp (if neq then .neq else .eql) ty p q ty') (hp : a.eval p = .pointer x) (hq : a.eval q = .pointer y) :
    (execOp a.eval o).run P c.w = .ok (.value (.bool (if neq then !r else r))) c.w := by
  cases neq
  · have hb : (binOp .eql ty (.pointer x) (.pointer y)).run P c.w = .ok (.bool r) c.w := by
      have : binOp .eql ty (.pointer x) (.pointer y) = (do pure (.bool (← Op.equal ty (.pointer x) (.pointer y)))) := by cases x <;> cases y <;> rfl
      rw [this]
      simp only [Sem.run_bind, hr, Result.andThen_ok, Sem.run_pure]
    simp only [execOp, ho, hp, hq, Bool.false_eq_true, if_false, Sem.run_bind, eqGuard]
    simp [hb]
  · have hb : (binOp .neq ty (.pointer x) (.pointer y)).run P c.w = .ok (.bool (!r)) c.w := by
      have : binOp .neq ty (.pointer x) (.pointer y) = (do pure (.bool (!(← Op.equal ty (.pointer x) (.pointer y))))) := by cases x <;> cases y <;> rfl
      rw [this]
      simp only [Sem.run_bind, hr, Result.andThen_ok, Sem.run_pure]
    simp only [execOp, ho, hp, hq, if_true, Sem.run_bind, eqGuard]
    simp [hb]

theorem snd_peq (R : RelFr e c fr a.tmps) {neq : Bool} {ty ty' el : TypeId} {i : TypeInfo} {x y : Operand} {x' y' : Opd} (ho : o.op = .binOp (if neq then .neq else .eql) ty x y ty') (ht : P.underlying ty = some (.pointer el)) (hi : P.info? el = some i) (hs : i.size ≠ 0) (hx : cOpd x = some x') (hy : cOpd y = some y') {t : T} {ws : List W} {ls : List Loc}
    (h : fr.ask (match fr.get x', fr.get y' with
    | .one (.v (.s (.pointer none))), .one (.v (.s (.pointer none))) => .done (some (tB (!neq), []))
    | .one (.v (.pt _)), .one (.v (.s (.pointer none))) => .done (some (tB neq, []))
    | .one (.v (.s (.pointer none))), .one (.v (.pt _)) => .done (some (tB neq, []))
    | .one (.ref _ _), .one (.v (.s (.pointer none))) => .done (some (tB neq, []))
    | .one (.v (.s (.pointer none))), .one (.ref _ _) => .done (some (tB neq, []))
    | .one (.ref k o), .one (.ref k' o') => if k = k' ∧ o = o' then .one k.at fun q => if k.fits q.g && !q.cs.isEmpty then some (tB (!neq), []) else none else .done none
    | _, _ => .done none) = some (t, ws, ls)) : Snd P e c fr a o t ws := by
  have hcx := get_rel R hx
  have hcy := get_rel R hy
  obtain ⟨q1, q2, q3, q4⟩ := run_equal_ptr (P := P) ht hi hs c.w
  have pp : ∀ {cs : List V} {v : Value}, RelT c (.one (.v (.pt cs))) v → ∃ b, v = .pointer (some b) := by
    intro cs v hh
    have := hh.one_live (by simp)
    simp only [RelC, RelV] at this
    obtain ⟨b, q, hv, _⟩ := this
    exact ⟨_, hv⟩
  have pr : ∀ {k : Key} {off : Nat} {v : Value}, RelT c (.one (.ref k off)) v → ∃ b, v = .pointer (some b) := by
    intro k off v hh
    have := hh.one_live (by simp)
    simp only [RelC] at this
    obtain ⟨_, b, hv, _⟩ := this
    exact ⟨_, hv⟩
  split at h
  · rename_i h1 h2
    rw [h1] at hcx; rw [h2] at hcy
    obtain ⟨h, _⟩ := ask_done h
    simp only [Option.some.injEq, Prod.mk.injEq] at h
    obtain ⟨rfl, rfl⟩ := h
    have := run_peq ht hi hs q1 ho hcx.lit.1 hcy.lit.1
    exact Snd.plain R this (by cases neq <;> exact RelT.mkLit rfl)
  · rename_i h1 h2
    rw [h1] at hcx; rw [h2] at hcy
    obtain ⟨h, _⟩ := ask_done h
    simp only [Option.some.injEq, Prod.mk.injEq] at h
    obtain ⟨rfl, rfl⟩ := h
    obtain ⟨b, hb⟩ := pp hcx
    have := run_peq ht hi hs (q2 b) ho hb hcy.lit.1
    exact Snd.plain R this (by cases neq <;> exact RelT.mkLit rfl)
  · rename_i h1 h2
    rw [h1] at hcx; rw [h2] at hcy
    obtain ⟨h, _⟩ := ask_done h
    simp only [Option.some.injEq, Prod.mk.injEq] at h
    obtain ⟨rfl, rfl⟩ := h
    obtain ⟨b, hb⟩ := pp hcy
    have := run_peq ht hi hs (q3 b) ho hcx.lit.1 hb
    exact Snd.plain R this (by cases neq <;> exact RelT.mkLit rfl)
  · rename_i h1 h2
    rw [h1] at hcx; rw [h2] at hcy
    obtain ⟨h, _⟩ := ask_done h
    simp only [Option.some.injEq, Prod.mk.injEq] at h
    obtain ⟨rfl, rfl⟩ := h
    obtain ⟨b, hb⟩ := pr hcx
    have := run_peq ht hi hs (q2 b) ho hb hcy.lit.1
    exact Snd.plain R this (by cases neq <;> exact RelT.mkLit rfl)
  · rename_i h1 h2
    rw [h1] at hcx; rw [h2] at hcy
    obtain ⟨h, _⟩ := ask_done h
    simp only [Option.some.injEq, Prod.mk.injEq] at h
    obtain ⟨rfl, rfl⟩ := h
    obtain ⟨b, hb⟩ := pr hcy
    have := run_peq ht hi hs (q3 b) ho hcx.lit.1 hb
    exact Snd.plain R this (by cases neq <;> exact RelT.mkLit rfl)
  · rename_i k off k' off' h1 h2
    rw [h1] at hcx; rw [h2] at hcy
    split at h
    · rename_i hkk
      obtain ⟨rfl, rfl⟩ := hkk
      obtain ⟨q, hq, h⟩ := ask_one h
      split at h
      · rename_i hf
        simp only [Bool.and_eq_true] at hf
        simp only [Option.some.injEq, Prod.mk.injEq] at h
        obtain ⟨rfl, rfl⟩ := h
        obtain ⟨hok, _⟩ := R.box hq hf.1
        have r1 := hcx.one_live (by simp)
        have r2 := hcy.one_live (by simp)
        simp only [RelC] at r1 r2
        obtain ⟨_, b1, v1, e1⟩ := r1
        obtain ⟨_, b2, v2, e2⟩ := r2
        rw [e1 hok] at v1
        rw [e2 hok] at v2
        have := run_peq ht hi hs (q4 _) ho v1 v2
        exact Snd.plain R this (by cases neq <;> exact RelT.mkLit rfl)
      · cases h
    · simp [Fr.ask] at h
  · simp [Fr.ask] at h

theorem foldl_push : ∀ (ns : List Int) (acc : ByteArray), ns.foldl (fun r n => r.push (UInt8.ofNat n.toNat)) acc = ⟨acc.data ++ (ns.map fun n => UInt8.ofNat n.toNat).toArray⟩
  | [], acc => by cases acc; simp
  | n :: ns, acc => by
    rw [List.foldl_cons, foldl_push ns]
    cases acc
    simp [ByteArray.push]

theorem bytesV_rel {w : World} {G : Nat → Nat} : ∀ {xs : List V} {bs : List UInt8} {b o : Nat}, bytesV xs = some bs → RelRow w G b o xs → ∃ ns : List Int, bs = ns.map (fun n => UInt8.ofNat n.toNat) ∧ ns.length = xs.length ∧ ∀ (i : Nat) (n : Int), ns[i]? = some n → w.cell? ⟨b, o + i, none⟩ = some (.int .u8 n)
  | [], bs, b, o, h, _ => by simp only [bytesV, Option.some.injEq] at h; subst h; exact ⟨[], rfl, rfl, by simp⟩
  | x :: xs, bs, b, o, h, hr => by
    unfold bytesV at h
    split at h
    · cases ‹_ :: _ = []›
    · rename_i n ys heq
      simp only [List.cons.injEq] at heq
      obtain ⟨rfl, rfl⟩ := heq
      cases hb : bytesV xs with
      | none => simp [hb] at h
      | some bs' =>
        simp only [hb, Option.map_some, Option.some.injEq] at h
        subst h
        simp only [RelRow, RelV] at hr
        obtain ⟨⟨v, _, h2, rfl, _⟩, h4⟩ := hr
        obtain ⟨ns, k1, k2, k3⟩ := bytesV_rel hb h4
        refine ⟨n :: ns, by simp [k1], by simp [k2], fun i m hm => ?_⟩
        cases i with
        | zero => simp at hm; subst hm; simpa using h2
        | succ i => have := k3 i m (by simpa using hm); rw [show o + 1 + i = o + (i + 1) by omega] at this; exact this
    · cases h

theorem snd_conv (R : RelFr e c fr a.tmps) {s d : TypeId} {x : Operand} {x' : Opd} {k : Cv} (ho : o.op = .convert s d x) (hx : cOpd x = some x')
    (hk : (∃ ks kd, P.underlying s = some (.int ks) ∧ P.underlying d = some (.int kd) ∧ k = .toInt kd) ∨ (∃ ks kd, P.underlying s = some (.float ks) ∧ P.underlying d = some (.int kd) ∧ k = .toInt kd) ∨
      (∃ ks kd, P.underlying s = some (.int ks) ∧ P.underlying d = some (.float kd) ∧ k = .toFloat kd) ∨ (∃ el, P.underlying s = some (.slice el) ∧ P.underlying d = some .string ∧ P.underlying el = some (.int .u8) ∧ k = .bytesToStr)) {t : T} {ws : List W}
    (h : (conv k (fr.get x')).map (fun t => (t, ([] : List W))) = some (t, ws)) : Snd P e c fr a o t ws := by
  have hcx := get_rel R hx
  cases hcv : conv k (fr.get x') with
  | none => simp [hcv] at h
  | some t' =>
    simp only [hcv, Option.map_some, Option.some.injEq, Prod.mk.injEq] at h
    obtain ⟨rfl, rfl⟩ := h
    unfold conv at hcv
    split at hcv
    · rename_i kd k' n hg
      rw [hg] at hcx
      simp only [Option.some.injEq] at hcv
      subst hcv
      refine Snd.plain R (v := .int kd (kd.wrap n)) ?_ (RelT.mkLit (x := .int kd _) rfl)
      rcases hk with ⟨ks, kd', h1, h2, h3⟩ | ⟨ks, kd', h1, h2, h3⟩ | ⟨ks, kd', h1, h2, h3⟩ | ⟨el, h1, h2, h3, h4⟩
      · cases h3; simp [execOp, ho, convert, run_underlying h1, run_underlying h2, hcx.lit.1, Conv.intToInt]
      · cases h3; simp [execOp, ho, convert, run_underlying h1, run_underlying h2, hcx.lit.1, Conv.intToInt]
      · cases h3
      · cases h4
    · rename_i kd k' n hg
      rw [hg] at hcx
      simp only [Option.some.injEq] at hcv
      subst hcv
      refine Snd.plain R (v := .float kd (kd.nearest n)) ?_ (RelT.mkLit (x := .float kd _) rfl)
      rcases hk with ⟨ks, kd', h1, h2, h3⟩ | ⟨ks, kd', h1, h2, h3⟩ | ⟨ks, kd', h1, h2, h3⟩ | ⟨el, h1, h2, h3, h4⟩
      · cases h3
      · cases h3
      · cases h3; simp [execOp, ho, convert, run_underlying h1, run_underlying h2, hcx.lit.1, Conv.intToFloat]
      · cases h4
    · rename_i kd k' n hg
      rw [hg] at hcx
      cases hp : pureOf (Conv.floatToInt k' n kd) with
      | none => simp [hp] at hcv
      | some r =>
        simp only [hp, Option.bind_some] at hcv
        refine Snd.plain R (v := r) ?_ (lit_rel hcv)
        have hrun := pureOf_run (P := P) hp c.w
        rcases hk with ⟨ks, kd', h1, h2, h3⟩ | ⟨ks, kd', h1, h2, h3⟩ | ⟨ks, kd', h1, h2, h3⟩ | ⟨el, h1, h2, h3, h4⟩
        · cases h3; simp [execOp, ho, convert, run_underlying h1, run_underlying h2, hcx.lit.1, hrun]
        · cases h3; simp [execOp, ho, convert, run_underlying h1, run_underlying h2, hcx.lit.1, hrun]
        · cases h3
        · cases h4
    · rename_i y hg
      rw [hg] at hcx
      cases hel : y.elems with
      | none => simp [hel] at hcv
      | some es =>
        simp only [hel] at hcv
        split at hcv
        · rename_i hall
          have hall' : ∀ x ∈ es, x.length = 1 := by simpa using hall
          cases hb : bytesV es.flatten with
          | none => simp [hb] at hcv
          | some bs =>
            simp only [hb, Option.map_some, Option.some.injEq] at hcv
            subst hcv
            refine Snd.plain R (v := .string ⟨bs.toArray⟩) ?_ (RelT.mkLit (x := .string _) rfl)
            have := C.elems_rel (hcx.one_live (C.elems_live hel)) hel
            simp only [RelV] at this
            obtain ⟨A, len, cap, sz, hv, hl, _, hr⟩ := this
            rcases hk with ⟨ks, kd', h1, h2, h3⟩ | ⟨ks, kd', h1, h2, h3⟩ | ⟨ks, kd', h1, h2, h3⟩ | ⟨el, h1, h2, h3, h4⟩
            · cases h3
            · cases h3
            · cases h3
            · have hlen : es.flatten.length = es.length := by
                clear hel hcx hl hr hb hall
                induction es with
                | nil => rfl
                | cons x es ih => simp only [List.flatten_cons, List.length_append, List.length_cons]; rw [ih (fun y hy => hall' y (by simp [hy])), hall' x (by simp)]; omega
              by_cases hA : ∃ ad, A = some ad
              · obtain ⟨ad, rfl⟩ := hA
                rcases hr with rfl | ⟨b, of, hA, hr⟩
                · simp only [List.flatten_nil, bytesV, Option.some.injEq] at hb
                  subst hb
                  simp only [List.length_nil] at hl
                  subst hl
                  have hrun := run_bytesToString (P := P) c.w ad 0 cap [] rfl
                  simp only [execOp, ho, convert, Sem.run_bind, run_underlying h1, run_underlying h2, run_underlying h3, hv, Result.andThen_ok]
                  simp [Conv.bytesToString, loadCells, loadCellsFrom]; rfl
                · simp only [Option.some.injEq] at hA
                  subst hA
                  obtain ⟨ns, n1, n2, n3⟩ := bytesV_rel hb hr.flat.1
                  have hrun : (Conv.bytesToString (.slice (some ⟨b, of, none⟩) len cap)).run P c.w = .ok (.string (ns.foldl (fun r n => r.push (UInt8.ofNat n.toNat)) ByteArray.empty)) c.w := by
                    refine run_bytesToString c.w _ len cap ns ?_
                    have hll := run_loadCells_list (P := P) c.w ⟨b, of, none⟩ (ns.map fun n => .int .u8 n) (fun j v hj => by
                      rw [List.getElem?_map] at hj
                      cases hn : ns[j]? with
                      | none => simp [hn] at hj
                      | some n =>
                        simp only [hn, Option.map_some, Option.some.injEq] at hj
                        subst hj
                        rw [addr_add]
                        exact n3 j n hn)
                    have he : (ns.map fun n => Value.int .u8 n).length = len := by rw [List.length_map]; omega
                    rw [he] at hll
                    exact hll
                  rw [foldl_push] at hrun
                  simp only [execOp, ho, convert, Sem.run_bind, run_underlying h1, run_underlying h2, run_underlying h3, hv, Result.andThen_ok, hrun]
                  rw [n1]
                  simp [ByteArray.empty, ByteArray.emptyWithCapacity]; rfl
              · have hA0 : A = none := by cases A with | none => rfl | some ad => exact absurd ⟨ad, rfl⟩ hA
                subst hA0
                rcases hr with rfl | ⟨b, of, hA', _⟩
                · simp only [List.flatten_nil, bytesV, Option.some.injEq] at hb
                  subst hb
                  simp only [execOp, ho, convert, Sem.run_bind, run_underlying h1, run_underlying h2, run_underlying h3, hv, Result.andThen_ok]
                  simp [Conv.bytesToString]; rfl
                · cases hA'
        · cases hcv
    · rename_i s' hg
      rcases hk with ⟨ks, kd', h1, h2, h3⟩ | ⟨ks, kd', h1, h2, h3⟩ | ⟨ks, kd', h1, h2, h3⟩ | ⟨el, h1, h2, h3, h4⟩
      · cases h3
      · cases h3
      · cases h3
      · cases h4
    · cases hcv

end
end Go.Dev

/- append. -/
namespace Go.Dev
open Go

variable {P : Program}

/-- What is appended: its length and its cells. -/
def Src (P : Program) (h : Array Obj) (sz : Nat) (x : Value) (n : Nat) (news : Array Value) : Prop :=
  ∀ w : World, w.heap = h → (Builtin.lenOf x).run P w = .ok n w ∧ (Builtin.firstCells sz n x).run P w = .ok news w

theorem heap_drew (w : World) : w.drew.heap = w.heap := rfl

theorem run_append_gen {t u e ty : TypeId} {i : TypeInfo} {z : Value} (ht : P.underlying t = some (.slice e)) (hu : (∃ e', P.underlying u = some (.slice e')) ∨ P.underlying u = some .string) (hi : P.info? e = some i) (hz : i.zero = some z) (hb : i.bytes ≠ 0)
    (w : World) {x : Value} {n : Nat} {news olds : Array Value} (hs : Src P w.heap i.size x n news) {base : Option Addr} {sLen sCap : Nat}
    (ho : sCap < sLen + n → Src P w.heap i.size (.slice base sLen sCap) sLen olds) (hfit : sCap < sLen + n → Builtin.nextslicecap (sLen + n) sCap * i.bytes ≤ 281474976710656) :
    (Builtin.append_ #[t, u] ty #[.slice base sLen sCap, x]).run P w =
      if sLen + n ≤ sCap then (match (generalizing := false) base with
        | some a => (do storeCells (a.add (sLen * i.size)) news.toList; pure (Value.slice base (sLen + n) sCap) : Sem Value).run P w
        | none => .ok (.slice base (sLen + n) sCap) w)
      else .ok (.slice (some ⟨w.heap.size, 0, none⟩) (sLen + n) (grownCap w (sLen + n) sCap e)) (w.drew.alloc (.cells (olds ++ news ++ Builtin.zeroCells z.cells (grownCap w (sLen + n) sCap e - (sLen + n))) e)) := by
  have h1 := (hs w rfl).1
  have h2 := (hs w rfl).2
  have h3 := (hs w.drew rfl).2
  have hzeros : (do pure ((← underlying u) matches .int _) : Sem Bool).run P w = .ok false w := by
    rcases hu with ⟨e', hu⟩ | hu <;> simp [run_underlying hu]
  by_cases hroom : sLen + n ≤ sCap
  · rw [if_pos hroom]
    cases base with
    | none => rcases hu with ⟨e', hu⟩ | hu <;> simp [Builtin.append_, run_underlying ht, run_underlying hu, sizeOf, typeInfo, hi, h1, h2, hroom]
    | some a => rcases hu with ⟨e', hu⟩ | hu <;> simp [Builtin.append_, run_underlying ht, run_underlying hu, sizeOf, typeInfo, hi, h1, h2, hroom]
  · rw [if_neg hroom]
    have h48 : ¬ (281474976710656 < Builtin.nextslicecap (sLen + n) sCap * i.bytes) := by have := hfit (by omega); omega
    have h4 := (ho (by omega) w.drew rfl).2
    rcases hu with ⟨e', hu⟩ | hu <;> simp [Builtin.append_, run_underlying ht, run_underlying hu, sizeOf, typeInfo, zeroValue, hi, hz, h1, h3, h4, hroom, hb, h48, Question.forced, newRow, grownCap]

theorem RelRow.vals2 {w : World} {G : Nat → Nat} : ∀ {xs : List V} {b o : Nat}, RelRow w G b o xs → ∃ vs, RelVs w G xs vs ∧ ∀ (j : Nat) (v : Value), vs[j]? = some v → o + j < G b ∧ w.cell? ⟨b, o + j, none⟩ = some v
  | [], _, _, _ => ⟨[], by simp [RelVs], by simp⟩
  | x :: xs, b, o, h => by
    simp only [RelRow] at h
    obtain ⟨⟨v, h1, h2, h3⟩, h4⟩ := h
    obtain ⟨vs, k1, k2⟩ := RelRow.vals2 h4
    refine ⟨v :: vs, by simp only [RelVs]; exact ⟨h3, k1⟩, fun j u hu => ?_⟩
    cases j with
    | zero => simp at hu; subst hu; exact ⟨h1, h2⟩
    | succ j => have := k2 j u (by simpa using hu); rw [show o + 1 + j = o + (j + 1) by omega] at this; exact this

theorem cell_heap {w w' : World} (h : w'.heap = w.heap) (a : Addr) (hs : a.spot = none) : w'.cell? a = w.cell? a := by
  simp [World.cell?, h]

theorem src_slice {c : Cx} {es : List (List V)} {v : Value} {sz : Nat} (h : RelV c.w c.gh.G (.sl es) v) (hall : ∀ x ∈ es, x.length = sz) : ∃ A cap news, v = .slice A es.length cap ∧ es.length ≤ cap ∧ Src P c.w.heap sz v es.length news ∧ RelVs c.w c.gh.G es.flatten news.toList := by
  simp only [RelV] at h
  obtain ⟨A, len, cap, sz', rfl, rfl, h1, hr⟩ := h
  refine ⟨A, cap, ?_⟩
  rcases hr with rfl | ⟨b, o, rfl, hr⟩
  · refine ⟨#[], rfl, h1, fun w hw => ⟨rfl, ?_⟩, by simp [RelVs]⟩
    cases A <;> simp [Builtin.firstCells, loadCells, loadCellsFrom]
  · obtain ⟨r1, r2, r3⟩ := hr.flat
    obtain ⟨vs, v1, v2⟩ := r1.vals2
    have hl : es.flatten.length = es.length * sz := by
      by_cases he : es = []
      · subst he; simp
      · obtain ⟨x, xs, rfl⟩ := List.exists_cons_of_ne_nil he
        have e1 := r3 x (by simp)
        have e2 := hall x (by simp)
        rw [r2, ← e1, e2]
    refine ⟨vs.toArray, rfl, h1, fun w hw => ⟨rfl, ?_⟩, by simpa using v1⟩
    refine run_firstCells_some w sz es.length ⟨b, o, none⟩ es.length cap vs (by rw [← v1.length, hl]) fun j u hj => ?_
    rw [addr_add, cell_heap hw _ rfl]
    exact (v2 j u hj).2

theorem relVs_bytes {w : World} {G : Nat → Nat} : ∀ l : List UInt8, RelVs w G (l.map fun b => V.s (.int .u8 b.toNat)) (l.map fun b => Value.int .u8 b.toNat)
  | [] => by simp [RelVs]
  | b :: l => by simp only [List.map_cons, RelVs, RelV]; exact ⟨⟨trivial, rfl⟩, relVs_bytes l⟩

theorem flatten_bytes (l : List UInt8) : (l.map fun b => [V.s (.int .u8 b.toNat)]).flatten = l.map fun b => V.s (.int .u8 b.toNat) := by
  induction l with
  | nil => rfl
  | cons b l ih => simp [ih]

theorem src_elems {c : Cx} {t : T} {ys : List (List V)} {v : Value} {sz : Nat} (h : RelT c t v) (ht : t.elems = some ys) (hall : ∀ x ∈ ys, x.length = sz) : ∃ news, Src P c.w.heap sz v ys.length news ∧ RelVs c.w c.gh.G ys.flatten news.toList := by
  unfold T.elems at ht
  split at ht
  · rename_i s
    simp only [Option.some.injEq] at ht
    subst ht
    obtain ⟨rfl, _⟩ := h.lit
    refine ⟨s.data.map fun b => .int .u8 b.toNat, fun w hw => ⟨?_, ?_⟩, ?_⟩
    · simp only [Builtin.lenOf, byteCells, List.length_map, Array.length_toList]; rfl
    · simp only [Builtin.firstCells, byteCells, List.length_map, Array.length_toList]
      have : (s.extract 0 s.data.size).data = s.data := by
        apply Array.ext'
        simp [ByteArray.data_extract]
      rw [this]; rfl
    · simp only [byteCells, flatten_bytes, Array.toList_map]
      exact relVs_bytes _
  · rename_i x _
    have := C.elems_rel (h.one_live (C.elems_live ht)) ht
    obtain ⟨A, cap, news, _, _, k1, k2⟩ := src_slice (P := P) this hall
    exact ⟨news, k1, k2⟩
  · cases ht

theorem cell_of_heap {w : World} {b i : Nat} {arr : Array Value} {ty : TypeId} {fz : Nat × Nat} (h : w.heap[b]? = some (.cells arr ty fz)) : w.cell? ⟨b, i, none⟩ = arr[i]? := by
  simp [World.cell?, h]

theorem flatten_len {es : List (List V)} {sz : Nat} (h : ∀ x ∈ es, x.length = sz) : es.flatten.length = es.length * sz := by
  induction es with
  | nil => simp
  | cons x es ih => simp only [List.flatten_cons, List.length_append, List.length_cons, ih (fun y hy => h y (by simp [hy])), h x (by simp), Nat.add_mul]; omega

/-- A new list, that may be gone on with. -/
theorem lin_new {c : Cx} {ys : List (List V)} {vs : List Value} {sz cap d : Nat} {e : TypeId} {arr : Array Value} (hr : RelVs c.w c.gh.G ys.flatten vs) (hall : ∀ x ∈ ys, x.length = sz) (hne : ys ≠ []) (hsz : 0 < sz)
    (harr : ∀ (j : Nat) (v : Value), vs[j]? = some v → arr[j]? = some v) (hcap : ys.length ≤ cap) (hfit : cap * sz ≤ arr.size) :
    RelC (c.allocH (.cells arr e) (ys.length * sz) d) (.lin d (c.gen d + 1) e ys) (.slice (some ⟨c.w.heap.size, 0, none⟩) ys.length cap) := by
  have hnew : (c.allocH (.cells arr e) (ys.length * sz) d).w.heap[c.w.heap.size]? = some (.cells arr e (0, 0)) := heap_alloc_new ..
  have hG : (c.allocH (.cells arr e) (ys.length * sz) d).gh.G c.w.heap.size = ys.length * sz := upd_same ..
  have H := CxLe.allocH c (.cells arr e) (ys.length * sz) d
  simp only [RelC]
  refine ⟨?_, by simp only [Cx.allocH, upd_same]; exact Nat.le_refl _, fun _ => ?_⟩
  · simp only [RelV]
    refine ⟨_, _, cap, sz, rfl, rfl, hcap, .inr ⟨_, 0, rfl, RelRows.mk hall (RelRow.mk fun i x hx => ?_)⟩⟩
    obtain ⟨v, v1, v2⟩ := hr.at hx
    have hi : i < ys.flatten.length := (List.getElem?_eq_some_iff.1 hx).1
    refine ⟨v, ?_, ?_, RelV.mono H.rd x v v2⟩
    · rw [hG, ← flatten_len hall]; omega
    · rw [cell_of_heap hnew, Nat.zero_add]; exact harr i v v1
  · refine ⟨0, ys.length, cap, arr, (0, 0), sz, ?_, hne, hall, hsz, rfl, hcap, ?_, ?_, by omega, by simp, ?_⟩
    · simp only [Cx.allocH, upd_same]
    · simp only [Cx.allocH, upd_same]; omega
    · simp only [Cx.allocH, upd_same]; exact hnew
    · simp only [Cx.allocH, upd_same]

/-! ### In place -/

def Cx.grow (c : Cx) (b : Nat) (arr : Array Value) (r h d : Nat) : Cx :=
  { c with w := c.w.setRow b arr, gen := upd (upd c.gen h (c.gen h + 1)) d (c.gen d + 1), gh := { c.gh with β := upd c.gh.β d b, G := upd c.gh.G b r, ow := upd c.gh.ow b (.home d) } }

theorem CxLe.grow (c : Cx) {b ty r h d : Nat} {arr arr' : Array Value} {fz : Nat × Nat} (hb : c.w.heap[b]? = some (.cells arr ty fz)) (how : c.gh.ow b = .home h) (hs : arr'.size = arr.size) (hsame : ∀ i, i < c.gh.G b → arr'[i]? = arr[i]?) (hr : c.gh.G b ≤ r) : CxLe c (c.grow b arr' r h d) where
  rd := fun i o v h1 h2 => by
    have hw : (c.grow b arr' r h d).w = c.w.setRow b arr' := rfl
    by_cases e : i = b
    · subst e
      refine ⟨by simp only [Cx.grow, upd_same]; omega, ?_⟩
      rw [hw, cell_of_heap (heap_setRow_same _ hb), hsame o h1, ← cell_of_heap hb]
      exact h2
    · refine ⟨by simp only [Cx.grow]; rw [upd_other _ _ e]; exact h1, ?_⟩
      simp only [World.cell?] at h2 ⊢
      rw [hw, heap_setRow_other _ _ e]
      exact h2
  size := fun i a t f hi => by
    have hw : (c.grow b arr' r h d).w = c.w.setRow b arr' := rfl
    by_cases e : i = b
    · subst e
      rw [hb] at hi
      simp only [Option.some.injEq, Obj.cells.injEq] at hi
      obtain ⟨rfl, rfl, rfl⟩ := hi
      exact ⟨arr', fz, by rw [hw]; exact heap_setRow_same _ hb, hs⟩
    · exact ⟨a, f, by rw [hw, heap_setRow_other _ _ e]; exact hi, rfl⟩
  gen := fun a => by
    simp only [Cx.grow, upd]
    split
    · rename_i e; subst e; omega
    · split
      · rename_i e; subst e; omega
      · exact Nat.le_refl _
  home := fun a e => by
    simp only [Cx.grow, upd] at e ⊢
    split
    · rename_i k; subst k; simp at e
    · rfl
  tip := fun a ar t f e hp h2 h3 => by
    simp only [Cx.grow, upd] at e
    split at e
    · rename_i k; subst k; omega
    · split at e
      · rename_i k; subst k; omega
      · rename_i k1 k2
        have hne : c.gh.β a ≠ b := by
          intro k
          rw [k, how] at h2
          cases h2
          exact k2 rfl
        exact ⟨upd_other _ _ hne, by simp only [Cx.grow]; rw [upd_other _ _ hne]; exact h2, ar, f, by rw [show (c.grow b arr' r h d).w = c.w.setRow b arr' from rfl, heap_setRow_other _ _ hne]; exact h3, rfl, id⟩
  fo := fun _ _ => rfl
  nfo := Nat.le_refl _

theorem RelFr.grow {e : Ent} {c : Cx} {fr fr' : Fr} {tmps : Array Value} (R : RelFr e c fr tmps) {b ty r h d : Nat} {arr arr' : Array Value} {fz : Nat × Nat} (hb : c.w.heap[b]? = some (.cells arr ty fz)) (how : c.gh.ow b = .home h)
    (H : CxLe c (c.grow b arr' r h d)) (hgen : (c.grow b arr' r h d).gen = genOf fr') (htm : fr'.tm = fr.tm) (hfo : fr'.fo = fr.fo) (hbx : ∀ (a : Nat) (q : Ob), fr'.bx[a]? = some q → q.cs ≠ [] → fr.bx[a]? = some q ∧ a ≠ h ∧ a ≠ d) :
    RelFr e (c.grow b arr' r h d) fr' tmps := by
  have key : ∀ {b' : Nat} {own : Ow} {q : Ob}, BoxRel c b' own q → own ≠ .home h → BoxRel (c.grow b arr' r h d) b' own q := by
    intro b' own q hq hne
    have : b' ≠ b := by
      obtain ⟨_, _, _, _, _, _, k⟩ := hq
      rintro rfl
      exact hne (k.symm.trans how)
    exact hq.mono H (heap_setRow_other _ _ this) (upd_other _ _ this) (upd_other _ _ this)
  have hno : ∀ b', b' < e.w.heap.size → e.ow b' = .no → b' ≠ b := by
    intro b' b1 b2 k
    have := (R.ows b' b1 b2).1
    rw [k, how] at this
    cases this
  refine R.move H hgen (by rw [hfo]; exact R.nfo) htm (fun a q h1 h2 => ?_) (fun i q h1 h2 => ?_) (fun b' b1 b2 => heap_setRow_other _ _ (hno b' b1 b2)) (fun b' b1 b2 => ⟨upd_other _ _ (hno b' b1 b2), upd_other _ _ (hno b' b1 b2)⟩) (by simp [Cx.grow, World.setRow]) rfl rfl rfl
  · obtain ⟨k1, k2, k3⟩ := hbx a q h1 h2
    have hβ : (c.grow b arr' r h d).gh.β a = c.gh.β a := upd_other _ _ k3
    rw [hβ]
    exact key (R.bxs a q k1 h2) (by simp only [ne_eq, Ow.home.injEq]; exact k2)
  · rw [hfo] at h1
    exact key (R.fos i q h1 h2) (by simp)

theorem upd_upd_same {α : Type} (f : Nat → α) (i : Nat) (a b : α) : upd (upd f i a) i b = upd f i b := by
  funext j; simp only [upd]; split <;> rfl

end Go.Dev

/- append: what the evaluator says of it. -/
namespace Go.Dev
open Go

variable {P : Program}

section
variable {e : Ent} {c : Cx} {fr : Fr} {a : Act} {o : Oper}

theorem RelVs.at' {w : World} {G : Nat → Nat} {xs : List V} {vs : List Value} (h : RelVs w G xs vs) {i : Nat} {v : Value} (hv : vs[i]? = some v) : ∃ x, xs[i]? = some x ∧ RelV w G x v := by
  have hi : i < vs.length := (List.getElem?_eq_some_iff.1 hv).1
  have hx : xs[i]? = some (xs[i]'(by rw [h.length]; exact hi)) := List.getElem?_eq_getElem _
  obtain ⟨u, u1, u2⟩ := h.at hx
  rw [hv, Option.some.injEq] at u1
  subst u1
  exact ⟨_, hx, u2⟩

theorem relCs_v {c : Cx} {xs : List V} {vs : List Value} (h : RelVs c.w c.gh.G xs vs) : RelCs c (xs.map C.v) vs :=
  RelCs.mk (by rw [List.length_map]; exact h.length) fun j x v hx hv => by
    rw [List.getElem?_map] at hx
    obtain ⟨y, y1, y2⟩ := h.at' hv
    rw [y1, Option.map_some, Option.some.injEq] at hx
    rw [← hx]
    simpa only [RelC] using y2

theorem RelCs.append {c : Cx} : ∀ {xs ys : List C} {us vs : List Value}, RelCs c xs us → RelCs c ys vs → RelCs c (xs ++ ys) (us ++ vs)
  | [], _, [], _, _, h => by simpa using h
  | _ :: _, _, _ :: _, _, h, k => by simp only [RelCs] at h; simp only [List.cons_append, RelCs]; exact ⟨h.1, RelCs.append h.2 k⟩
  | [], _, _ :: _, _, h, _ => by simp [RelCs] at h
  | _ :: _, _, [], _, h, _ => by simp [RelCs] at h

theorem oneOf {w : World} {G : Nat → Nat} {xs : List V} {vs : List Value} (h : RelVs w G xs vs) : ∀ v ∈ vs, v.oneCell' = true := by
  intro v hv
  obtain ⟨i, hi⟩ := List.getElem?_of_mem hv
  obtain ⟨x, _, hx⟩ := h.at' hi
  exact hx.flat

theorem fit_of_ok {need old n bytes : Nat} (h : okBytes n bytes = true) (hn : need = n) (hlt : old < need) : Builtin.nextslicecap need old * bytes ≤ 281474976710656 := by
  simp only [okBytes, decide_eq_true_eq] at h
  have h1 : Builtin.nextslicecap need old * bytes ≤ 2 * need * bytes := Nat.mul_le_mul_right _ (nextslicecap_le hlt)
  subst hn
  omega

/-- The new array behind what grew. -/
theorem grown_get (w : World) (need old : Nat) (el : TypeId) (arr z : Array Value) (sz : Nat) (hz : z.size = sz) (ha : arr.size = need * sz) :
    (∀ (j : Nat) (v : Value), arr[j]? = some v → (arr ++ Builtin.zeroCells z (grownCap w need old el - need))[j]? = some v) ∧ grownCap w need old el * sz ≤ (arr ++ Builtin.zeroCells z (grownCap w need old el - need)).size := by
  refine ⟨fun j v hv => ?_, ?_⟩
  · have hj : j < arr.size := (Array.getElem?_eq_some_iff.1 hv).1
    rw [Array.getElem?_append_left hj]; exact hv
  · rw [Array.size_append, size_zeroCells, hz, ha, ← Nat.add_mul]
    have := grownCap_ge w need old el
    rw [Nat.add_sub_cancel' this]
    exact Nat.le_refl _

theorem drew_rel (R : RelFr e c fr a.tmps) : RelFr e (c.at c.w.drew) fr a.tmps := R.of_heap rfl rfl rfl rfl

/-- The list is a new one, and no more than to be looked at. -/
theorem RelFr.newLin (R : RelFr e c fr a.tmps) {d : Nat} {q : Ob} {arr : Array Value} {ty : TypeId} {r : Nat} (hq : fr.look (.home d) = some q) {fr' : Fr} (hw : fr.write (.setb d ⟨q.g + 1, 0, []⟩) = some fr') : c.gen d = q.g ∧ RelFr e (c.allocH (.cells arr ty) r d) fr' a.tmps := by
  simp only [Fr.look] at hq
  obtain ⟨hd, rfl⟩ := write_setb hw
  have hg : c.gen d = q.g := by rw [R.gen]; exact Fr.ob_loc hq rfl
  have := R.allocH arr ty r d 0 [] hd (fun k => absurd rfl k) (fun k => absurd rfl k) (by simp)
  rw [hg] at this
  exact ⟨hg, this⟩

theorem ask_two {fr : Fr} {l m : Loc} {k : Ob → Ob → Ans} {t : T} {ws : List W} {ls : List Loc} (h : fr.ask (.two l m k) = some (t, ws, ls)) : ∃ o o', fr.look l = some o ∧ fr.look m = some o' ∧ k o o' = some (t, ws) := by
  simp only [Req.two, Fr.ask, Fr.looks] at h
  cases hl : fr.look l with
  | none => simp [hl] at h
  | some o =>
    cases hm : fr.look m with
    | none => simp [hl, hm] at h
    | some o' =>
      simp only [hl, hm] at h
      refine ⟨o, o', rfl, rfl, ?_⟩
      cases hk : k o o' with
      | none => simp [hk, Fr.ask] at h
      | some q => obtain ⟨t', ws'⟩ := q; simp [hk, Fr.ask] at h; rw [h.1, h.2.1]

/-- A home's right is let go. -/
def Cx.bump (c : Cx) (h : Nat) : Cx := { c with gen := upd c.gen h (c.gen h + 1) }

theorem CxLe.bump (c : Cx) (h : Nat) : CxLe c (c.bump h) where
  rd := RdLe.refl _ _
  size := fun _ arr _ fz h => ⟨arr, fz, h, rfl⟩
  gen := fun a => by
    simp only [Cx.bump, upd]
    split
    · rename_i e; subst e; omega
    · exact Nat.le_refl _
  home := fun _ _ => rfl
  tip := fun _ arr _ fz _ _ h3 h4 => ⟨rfl, h3, arr, fz, h4, rfl, id⟩
  fo := fun _ _ => rfl
  nfo := Nat.le_refl _

theorem RelFr.bump (R : RelFr e c fr a.tmps) {h : Nat} {q : Ob} (hq : fr.look (.home h) = some q) {cs : List C} {fr' : Fr} (hw : fr.write (.setb h ⟨q.g + 1, 0, cs⟩) = some fr') (hb : cs ≠ [] → BoxRel c (c.gh.β h) (.home h) ⟨q.g + 1, 0, cs⟩) : c.gen h = q.g ∧ RelFr e (c.bump h) fr' a.tmps := by
  simp only [Fr.look] at hq
  obtain ⟨hd, rfl⟩ := write_setb hw
  have hg : c.gen h = q.g := by rw [R.gen]; exact Fr.ob_loc hq rfl
  have H := CxLe.bump c h
  refine ⟨hg, R.move H ?_ R.nfo rfl (fun b q' h1 h2 => ?_) (fun i q' h1 h2 => (R.fos i q' h1 h2).mono H rfl rfl rfl) (fun _ _ _ => rfl) (fun _ _ _ => ⟨rfl, rfl⟩) (Nat.le_refl _) rfl rfl rfl⟩
  · simp only [Cx.bump]
    rw [genOf_set hd _ rfl, hg, R.gen]
  · simp only [List.getElem?_set] at h1
    split at h1
    · rename_i k
      subst k
      simp only [Option.some.injEq] at h1
      subst h1
      exact (hb h2).mono H rfl rfl rfl
    · exact (R.bxs b q' h1 h2).mono H rfl rfl rfl

/-- A list that is gone on with, in place. -/
theorem lin_in_place {h d g : Nat} {el : TypeId} {es ys : List (List V)} {v : Value} {sz : Nat} {news : Array Value} (hr : RelV c.w c.gh.G (.sl es) v) (tip : Tip c h el es v) (hes : ∀ x ∈ es, x.length = sz) (hys : ∀ x ∈ ys, x.length = sz) (hsz : 0 < sz)
    (hnews : RelVs c.w c.gh.G ys.flatten news.toList) : ∃ o cap arr fz, v = .slice (some ⟨c.gh.β h, o, none⟩) es.length cap ∧ c.w.heap[c.gh.β h]? = some (.cells arr el fz) ∧ c.gh.ow (c.gh.β h) = .home h ∧
      (es.length + ys.length ≤ cap → (storeCells (Addr.mk (c.gh.β h) (o + es.length * sz) none) news.toList).run P c.w = .ok () (c.w.setRow (c.gh.β h) (rowPut arr (o + es.length * sz) news.toList)) ∧
        CxLe c (c.grow (c.gh.β h) (rowPut arr (o + es.length * sz) news.toList) (o + (es.length + ys.length) * sz) h d) ∧
        RelC (c.grow (c.gh.β h) (rowPut arr (o + es.length * sz) news.toList) (o + (es.length + ys.length) * sz) h d) (.lin d (c.gen d + 1) el (es ++ ys)) (.slice (some ⟨c.gh.β h, o, none⟩) (es.length + ys.length) cap)) := by
  obtain ⟨o, len, cap, arr, fz, sz', e1, e2, e3, e4, e5, e6, e7, e8, e9, e10, e11⟩ := tip
  obtain ⟨x0, xs0, hx0⟩ := List.exists_cons_of_ne_nil e2
  have hss : sz' = sz := by
    have k1 := e3 x0 (by rw [hx0]; simp)
    have k2 := hes x0 (by rw [hx0]; simp)
    omega
  subst hss
  subst e5
  refine ⟨o, cap, arr, fz, e1, e8, e11, fun hroom => ?_⟩
  have hnl : news.size = ys.length * sz' := by rw [← flatten_len hys, hnews.length, Array.length_toList]
  have hnl' : news.toList.length = ys.length * sz' := by rw [Array.length_toList, hnl]
  have hm : (es.length + ys.length) * sz' ≤ cap * sz' := Nat.mul_le_mul_right _ hroom
  have hadd : (es.length + ys.length) * sz' = es.length * sz' + ys.length * sz' := Nat.add_mul ..
  have hfit : o + es.length * sz' + news.toList.length ≤ arr.size := by omega
  have hst := run_storeCells_atF P (c.gh.β h) (o + es.length * sz') el fz news.toList 0 arr c.w e8 (by omega) (by omega) (oneOf hnews)
  simp only [Nat.add_zero] at hst
  have hget := fun j => rowPut_get (arr := arr) (off := o + es.length * sz') (vs := news.toList) hfit j
  have H : CxLe c (c.grow (c.gh.β h) (rowPut arr (o + es.length * sz') news.toList) (o + (es.length + ys.length) * sz') h d) := by
    refine CxLe.grow c e8 e11 (rowPut_size hfit) (fun j hj => ?_) (by omega)
    rw [hget j, if_pos (by omega)]
  have hheap : (c.grow (c.gh.β h) (rowPut arr (o + es.length * sz') news.toList) (o + (es.length + ys.length) * sz') h d).w.heap[c.gh.β h]? = some (.cells (rowPut arr (o + es.length * sz') news.toList) el fz) := heap_setRow_same _ e8
  have hall : ∀ x ∈ es ++ ys, x.length = sz' := by
    intro x hx
    rcases List.mem_append.1 hx with hx | hx
    · exact hes x hx
    · exact hys x hx
  refine ⟨hst, H, ?_⟩
  have hr' := RelV.mono H.rd _ _ hr
  have hn' := hnews.mono H.rd
  simp only [RelC]
  refine ⟨?_, by simp only [Cx.grow, upd_same]; exact Nat.le_refl _, fun _ => ?_⟩
  · simp only [RelV] at hr' ⊢
    obtain ⟨A, len, cap', sz'', q1, q2, q3, q4⟩ := hr'
    rw [e1] at q1
    simp only [Value.slice.injEq] at q1
    obtain ⟨rfl, _, _⟩ := q1
    rcases q4 with q4 | ⟨b, o', q5, q6⟩
    · exact absurd q4 e2
    · simp only [Option.some.injEq, Addr.mk.injEq] at q5
      obtain ⟨rfl, rfl, _⟩ := q5
      refine ⟨_, _, cap, sz', rfl, by simp, hroom, .inr ⟨_, _, rfl, RelRows.mk hall ?_⟩⟩
      rw [List.flatten_append]
      refine q6.flat.1.append (RelRow.mk fun j x hx => ?_)
      obtain ⟨u, u1, u2⟩ := hn'.at hx
      have hj : j < ys.length * sz' := by rw [← hnl']; exact (List.getElem?_eq_some_iff.1 u1).1
      rw [flatten_len hes]
      refine ⟨u, by simp only [Cx.grow, upd_same]; omega, ?_, u2⟩
      rw [cell_of_heap hheap, hget, if_neg (by omega), if_pos (by omega), show o + es.length * sz' + j - (o + es.length * sz') = j by omega]
      exact u1
  · refine ⟨o, es.length + ys.length, cap, rowPut arr (o + es.length * sz') news.toList, fz, sz', ?_, by simp [hx0], hall, e4, by simp, hroom, ?_, ?_, ?_, by omega, ?_⟩
    · simp only [Cx.grow, upd_same]
    · simp only [Cx.grow, upd_same]
    · simp only [Cx.grow, upd_same]; exact hheap
    · rw [rowPut_size hfit]; exact e9
    · simp only [Cx.grow, upd_same]

theorem snd_append (R : RelFr e c fr a.tmps) {t u el : TypeId} {i : TypeInfo} {z : Value} {x y : Operand} {x' y' : Opd} {cl : Call} {own : Bool} (ho : o.op = .call cl) (hb : cl.callee = .builtin .append) (hargs : cl.args.toList = [x, y]) (hty : cl.argTypes.toList = [t, u])
    (ht : P.underlying t = some (.slice el)) (hu : (∃ e', P.underlying u = some (.slice e')) ∨ P.underlying u = some .string) (hi : P.info? el = some i) (hz : i.zero = some z) (hzs : z.cells.size = i.size) (hsz : i.size ≠ 0) (hby : i.bytes ≠ 0)
    (hx : cOpd x = some x') (hy : cOpd y = some y') {r : T} {ws : List W} {ls : List Loc}
    (h : fr.ask (match (fr.get y').elems with
    | none => .done none
    | some ys => if ys.all (·.length == i.size) then (match fr.get x', o.dst with
      | .one .esl, some d => if ys.isEmpty then .done (some (.one .esl, [])) else
          if okBytes ys.length i.bytes then .one (.home d) fun q =>
            if own then some (.one (.osl (.loc d (q.g + 1)) i.size 0 ys.length), [.setb d ⟨q.g + 1, 0, ys.flatten.map C.v⟩])
            else some (.one (.lin d (q.g + 1) el ys), [.setb d ⟨q.g + 1, 0, []⟩])
          else .done none
      | .one (.lin h g ty' es), some d => if ty' = el ∧ es.all (·.length == i.size) ∧ okBytes (es.length + ys.length) i.bytes then
          (if h = d then .one (.home d) fun q => if q.g = g then some (.one (.lin d (q.g + 1) el (es ++ ys)), [.setb d ⟨q.g + 1, 0, []⟩]) else none
          else .two (.home h) (.home d) fun q e => if q.g = g then some (.one (.lin d (e.g + 1) el (es ++ ys)), [.setb h ⟨q.g + 1, 0, []⟩, .setb d ⟨e.g + 1, 0, []⟩]) else none)
          else .done none
      | .one (.osl (.loc h g) sz' 0 len), some _ => if len ≠ 0 ∧ okBytes (len + ys.length) i.bytes then
          .one (.home h) fun q => if q.g = g ∧ sz' = i.size ∧ q.cs.length = len * i.size then some (.one (.osl (.loc h (q.g + 1)) i.size 0 (len + ys.length)), [.setb h ⟨q.g + 1, 0, q.cs ++ ys.flatten.map C.v⟩]) else none
          else .done none
      | _, _ => .done none) else .done none) = some (r, ws, ls)) : Snd P e c fr a o r ws := by
  have hcx := get_rel R hx
  have hcy := get_rel R hy
  have ha : cl.args = #[x, y] := by rw [← Array.toArray_toList (xs := cl.args), hargs]
  have hat : cl.argTypes = #[t, u] := by rw [← Array.toArray_toList (xs := cl.argTypes), hty]
  have hexec : ∀ {w' : World} {v : Value}, (Builtin.append_ #[t, u] o.type #[a.eval x, a.eval y]).run P c.w = .ok v w' → Runs P o a c.w w' v := by
    intro w' v hr
    left
    simp [execOp, ho, resolve, hb, ha, hat, invoke, builtin, hr]
  cases hel : (fr.get y').elems with
  | none => simp [hel, Fr.ask] at h
  | some ys =>
    simp only [hel] at h
    split at h
    · rename_i hall
      have hall' : ∀ x ∈ ys, x.length = i.size := by simpa using hall
      obtain ⟨news, hsrc, hnews⟩ := src_elems (P := P) hcy hel hall'
      have hnl : news.size = ys.length * i.size := by rw [← flatten_len hall', hnews.length, Array.length_toList]
      split at h
      · -- the empty list
        rename_i d hgx hd
        rw [hgx] at hcx
        have := hcx.one_live (by simp)
        simp only [RelC] at this
        obtain ⟨A, hv⟩ := this
        split at h
        · rename_i hemp
          obtain ⟨h, _⟩ := ask_done h
          simp only [Option.some.injEq, Prod.mk.injEq] at h
          obtain ⟨rfl, rfl⟩ := h
          simp only [List.isEmpty_iff] at hemp
          subst hemp
          intro fr' hw
          simp only [Fr.writes, Option.some.injEq] at hw
          subst hw
          have hn0 : news.toList = [] := by
            have : news.size = 0 := by simpa using hnl
            rw [Array.size_eq_zero_iff.1 this]
          have hrun := run_append_gen (P := P) (ty := o.type) ht hu hi hz hby c.w hsrc (base := A) (sLen := 0) (sCap := 0) (olds := #[]) (fun k => absurd k (by simp)) (fun k => absurd k (by simp))
          rw [if_pos (by simp)] at hrun
          refine ⟨.slice A 0 0, c, hexec ?_, CxLe.refl c, R, RelT.one (by simp only [RelC]; exact ⟨A, rfl⟩)⟩
          rw [hv, hrun]
          cases A with
          | none => simp
          | some ad => simp [hn0, storeCells]
        · rename_i hemp
          simp only [List.isEmpty_iff] at hemp
          split at h
          · rename_i hok
            obtain ⟨q, hq, h⟩ := ask_one h
            have hlt : 0 < 0 + ys.length := by have := List.length_pos_iff.2 hemp; omega
            have hold : Src P c.w.heap i.size (.slice A 0 0) 0 #[] := fun w hw => ⟨rfl, by cases A <;> simp [Builtin.firstCells, loadCells, loadCellsFrom]⟩
            have hrun := run_append_gen (P := P) (ty := o.type) ht hu hi hz hby c.w hsrc (base := A) (sLen := 0) (sCap := 0) (olds := #[]) (fun _ => hold) (fun k => fit_of_ok hok (by omega) k)
            rw [if_neg (by omega)] at hrun
            simp only [Nat.zero_add, Array.empty_append] at hrun
            obtain ⟨g1, g2⟩ := grown_get c.w ys.length 0 el news z.cells i.size hzs hnl
            generalize harr : news ++ Builtin.zeroCells z.cells (grownCap c.w ys.length 0 el - ys.length) = arr at hrun g1 g2
            have hcap := grownCap_ge c.w ys.length 0 el
            generalize hcp : grownCap c.w ys.length 0 el = cap at hrun g1 g2 hcap
            have R0 := drew_rel R
            have H0 := CxLe.of_heap (c := c) (w' := c.w.drew) rfl
            split at h
            · simp only [Option.some.injEq, Prod.mk.injEq] at h
              obtain ⟨rfl, rfl⟩ := h
              intro fr' hw
              have hrel : RelVs (c.at c.w.drew).w (c.at c.w.drew).gh.G ys.flatten news.toList := hnews.mono H0.rd
              have hcs := relCs_v hrel
              obtain ⟨hdl, rfl⟩ := write_setb (writes_one hw)
              simp only [Fr.look] at hq
              have hg : (c.at c.w.drew).gen d = q.g := by rw [R0.gen]; exact Fr.ob_loc hq rfl
              have R' := R0.allocH arr el 0 d 0 (ys.flatten.map C.v) hdl (fun _ => rfl) (fun k => absurd rfl k) (fun j x hj => by
                obtain ⟨v, v1, v2⟩ := hcs.at hj
                exact ⟨v, g1 j v (by rw [← Array.getElem?_toList]; exact v1), v2⟩)
              rw [hg] at R'
              refine ⟨_, _, hexec (by rw [hv]; exact hrun), H0.trans (CxLe.allocH ..), R', RelT.one ?_⟩
              simp only [RelC, Key.le, Key.ok, Key.blk]
              refine ⟨by simp only [Cx.allocH, upd_same]; omega, _, cap, rfl, hcap, fun _ => ⟨c.w.heap.size, arr, el, (0, 0), rfl, heap_alloc_new .., by omega, fun _ => by simp only [Cx.allocH, upd_same]; rfl⟩⟩
            · simp only [Option.some.injEq, Prod.mk.injEq] at h
              obtain ⟨rfl, rfl⟩ := h
              intro fr' hw
              obtain ⟨hg, R'⟩ := R0.newLin (arr := arr) (ty := el) (r := ys.length * i.size) hq (writes_one hw)
              refine ⟨_, _, hexec (by rw [hv]; exact hrun), H0.trans (CxLe.allocH (c.at c.w.drew) (.cells arr el) (ys.length * i.size) d), R', RelT.one ?_⟩
              rw [← hg]
              exact lin_new (hnews.mono H0.rd) hall' hemp (by omega) (fun j v hv => g1 j v (by rw [← Array.getElem?_toList]; exact hv)) hcap g2
          · simp [Fr.ask] at h
      · -- a list that may be gone on with
        rename_i h' g ty' es d hgx hd
        rw [hgx] at hcx
        have hcl := hcx.one_live (by simp)
        simp only [RelC] at hcl
        obtain ⟨hrv, hle, htip⟩ := hcl
        split at h
        · rename_i hc
          obtain ⟨rfl, hes, hok⟩ := hc
          have hes' : ∀ x ∈ es, x.length = i.size := by simpa using hes
          obtain ⟨A0, cap0, olds, hv0, hcap0, hold, holds⟩ := src_slice (P := P) hrv hes'
          have hol : olds.size = es.length * i.size := by rw [← flatten_len hes', holds.length, Array.length_toList]
          have key : ∀ q : Ob, fr.look (.home h') = some q → q.g = g → Tip c h' ty' es (a.eval x) := fun q hq hg => htip (by
            simp only [Fr.look] at hq
            rw [R.gen, Fr.ob_loc hq hg])
          have hboth : ∀ x ∈ es ++ ys, x.length = i.size := by
            intro x hx
            rcases List.mem_append.1 hx with hx | hx
            · exact hes' x hx
            · exact hall' x hx
          have hne : ∀ {v}, Tip c h' ty' es v → es ++ ys ≠ [] := fun {v} tip k => by
            obtain ⟨_, _, _, _, _, _, _, e2, _⟩ := tip
            exact e2 (List.append_eq_nil_iff.1 k).1
          -- the machine's run where the list does not fit
          have grow : ∀ (cap : Nat) (A : Option Addr), a.eval x = .slice A es.length cap → ¬ es.length + ys.length ≤ cap → ∃ cap' arr, Runs P o a c.w (c.w.drew.alloc (.cells arr ty')) (.slice (some ⟨c.w.heap.size, 0, none⟩) (es ++ ys).length cap') ∧
              (∀ (j : Nat) (v : Value), (olds.toList ++ news.toList)[j]? = some v → arr[j]? = some v) ∧ (es ++ ys).length ≤ cap' ∧ cap' * i.size ≤ arr.size := by
            intro cap A hv hno
            rw [hv] at hold
            have hrun := run_append_gen (P := P) (ty := o.type) ht hu hi hz hby c.w hsrc (base := A) (sLen := es.length) (sCap := cap) (olds := olds) (fun _ => hold) (fun k => fit_of_ok hok rfl k)
            rw [if_neg hno, ← hv] at hrun
            obtain ⟨g1, g2⟩ := grown_get c.w (es.length + ys.length) cap ty' (olds ++ news) z.cells i.size hzs (by rw [Array.size_append, hol, hnl, Nat.add_mul])
            refine ⟨_, _, hexec (by rw [hrun, List.length_append]), fun j v hj => g1 j v (by rw [← Array.getElem?_toList, Array.toList_append]; exact hj), by rw [List.length_append]; exact grownCap_ge .., g2⟩
          have hrel : RelVs c.w c.gh.G (es ++ ys).flatten (olds.toList ++ news.toList) := by rw [List.flatten_append]; exact holds.append hnews
          have R0 := drew_rel R
          have H0 := CxLe.of_heap (c := c) (w' := c.w.drew) rfl
          -- in place
          have place : ∀ (cap : Nat) (A : Option Addr) (w' : World) (ad : Addr), a.eval x = .slice A es.length cap → es.length + ys.length ≤ cap → A = some ad → (storeCells (ad.add (es.length * i.size)) news.toList).run P c.w = .ok () w' → Runs P o a c.w w' (.slice A (es.length + ys.length) cap) := by
            intro cap A w' ad hv hroom hA hst
            have hrun := run_append_gen (P := P) (ty := o.type) ht hu hi hz hby c.w hsrc (base := A) (sLen := es.length) (sCap := cap) (olds := olds) (fun k => by omega) (fun k => by omega)
            rw [if_pos hroom, ← hv] at hrun
            subst hA
            refine hexec (hrun.trans ?_)
            simp only [Sem.run_bind, hst, Result.andThen_ok]
            rfl
          split at h
          · rename_i hhd
            subst hhd
            obtain ⟨q, hq, h⟩ := ask_one h
            split at h
            · rename_i hqg
              simp only [Option.some.injEq, Prod.mk.injEq] at h
              obtain ⟨rfl, rfl⟩ := h
              have tip := key q hq hqg
              obtain ⟨of, cap, arr, fz, hv, hb0, how, hin⟩ := lin_in_place (P := P) (d := h') (g := g) hrv tip hes' hall' (by omega) hnews
              intro fr' hw
              by_cases hroom : es.length + ys.length ≤ cap
              · obtain ⟨hst, H, hrc⟩ := hin hroom
                obtain ⟨hdl, rfl⟩ := write_setb (writes_one hw)
                have hg : c.gen h' = q.g := by simp only [Fr.look] at hq; rw [R.gen]; exact Fr.ob_loc hq rfl
                refine ⟨_, _, place cap _ _ _ hv hroom rfl (by rw [addr_add]; exact hst), H, R.grow hb0 how H ?_ rfl rfl (fun b q' h1 h2 => ?_), ?_⟩
                · simp only [Cx.grow, upd_upd_same]
                  rw [genOf_set hdl _ rfl, hg, R.gen]
                · simp only [List.getElem?_set] at h1
                  split at h1
                  · simp only [Option.some.injEq] at h1
                    subst h1
                    exact absurd rfl h2
                  · rename_i k
                    exact ⟨h1, fun k' => k k'.symm, fun k' => k k'.symm⟩
                · rw [← hg]; exact RelT.one hrc
              · obtain ⟨cap', arr', hrun, h1, h2, h3⟩ := grow cap _ hv hroom
                obtain ⟨hg, R'⟩ := R0.newLin (arr := arr') (ty := ty') (r := (es ++ ys).length * i.size) hq (writes_one hw)
                refine ⟨_, _, hrun, H0.trans (CxLe.allocH (c.at c.w.drew) (.cells arr' ty') ((es ++ ys).length * i.size) h'), R', RelT.one ?_⟩
                rw [← hg]
                exact lin_new (hrel.mono H0.rd) hboth (hne tip) (by omega) h1 h2 h3
            · cases h
          · rename_i hhd
            obtain ⟨q, q2, hq, hq2, h⟩ := ask_two h
            split at h
            · rename_i hqg
              simp only [Option.some.injEq, Prod.mk.injEq] at h
              obtain ⟨rfl, rfl⟩ := h
              have tip := key q hq hqg
              obtain ⟨of, cap, arr, fz, hv, hb0, how, hin⟩ := lin_in_place (P := P) (d := d) (g := g) hrv tip hes' hall' (by omega) hnews
              intro fr' hw
              simp only [Fr.writes] at hw
              cases hw1 : fr.write (.setb h' ⟨q.g + 1, 0, []⟩) with
              | none => simp [hw1] at hw
              | some fr1 =>
                simp only [hw1] at hw
                have hw2 : fr1.write (.setb d ⟨q2.g + 1, 0, []⟩) = some fr' := by
                  cases hx2 : fr1.write (.setb d ⟨q2.g + 1, 0, []⟩) with
                  | none => simp [hx2] at hw
                  | some f2 => simpa [hx2] using hw
                have hg : c.gen h' = q.g := by simp only [Fr.look] at hq; rw [R.gen]; exact Fr.ob_loc hq rfl
                have hg2 : c.gen d = q2.g := by simp only [Fr.look] at hq2; rw [R.gen]; exact Fr.ob_loc hq2 rfl
                by_cases hroom : es.length + ys.length ≤ cap
                · obtain ⟨hst, H, hrc⟩ := hin hroom
                  obtain ⟨hdl1, rfl⟩ := write_setb hw1
                  obtain ⟨hdl2, rfl⟩ := write_setb hw2
                  refine ⟨_, _, place cap _ _ _ hv hroom rfl (by rw [addr_add]; exact hst), H, R.grow hb0 how H ?_ rfl rfl (fun b q' h1 h2 => ?_), ?_⟩
                  · simp only [Cx.grow]
                    rw [genOf_set hdl2 _ rfl, genOf_set hdl1 _ rfl, hg, hg2, R.gen]
                  · simp only [List.getElem?_set] at h1
                    split at h1
                    · simp only [Option.some.injEq] at h1
                      subst h1
                      exact absurd rfl h2
                    · split at h1
                      · simp only [Option.some.injEq] at h1
                        subst h1
                        exact absurd rfl h2
                      · rename_i k1 k2
                        exact ⟨h1, fun k' => k2 k'.symm, fun k' => k1 k'.symm⟩
                  · rw [← hg2]; exact RelT.one hrc
                · obtain ⟨cap', arr', hrun, h1, h2, h3⟩ := grow cap _ hv hroom
                  obtain ⟨_, R1⟩ := R0.bump hq hw1 (fun k => absurd rfl k)
                  have hq2' : fr1.look (.home d) = some q2 := by
                    obtain ⟨_, rfl⟩ := write_setb hw1
                    simp only [Fr.look] at hq2 ⊢
                    rw [List.getElem?_set_ne hhd]
                    exact hq2
                  obtain ⟨hg', R'⟩ := RelFr.newLin (a := a) R1 (arr := arr') (ty := ty') (r := (es ++ ys).length * i.size) hq2' hw2
                  have H1 := H0.trans (CxLe.bump (c.at c.w.drew) h')
                  refine ⟨_, _, hrun, H1.trans (CxLe.allocH ((c.at c.w.drew).bump h') (.cells arr' ty') ((es ++ ys).length * i.size) d), R', RelT.one ?_⟩
                  rw [← hg']
                  exact lin_new (hrel.mono H1.rd) hboth (hne tip) (by omega) h1 h2 h3
            · cases h
        · simp [Fr.ask] at h
      · -- a list of the frame's own
        rename_i h' g sz' len d hgx hd
        rw [hgx] at hcx
        have hcl := hcx.one_live (by simp)
        simp only [RelC] at hcl
        obtain ⟨hle, A, cap, hv, hlc, hbk⟩ := hcl
        split at h
        · rename_i hc
          obtain ⟨hl0, hok⟩ := hc
          have hask := ask_one h
          clear h
          obtain ⟨q, hq, h⟩ := hask
          split at h
          · rename_i hcc
            obtain ⟨hqg, rfl, hql⟩ := hcc
            simp only [Option.some.injEq, Prod.mk.injEq] at h
            obtain ⟨rfl, rfl⟩ := h
            have hqb : fr.bx[h']? = some q := by simpa only [Fr.look] using hq
            have hg : c.gen h' = q.g := by rw [R.gen]; exact Fr.ob_loc hqb rfl
            have hqne : q.cs ≠ [] := by
              intro k
              rw [k] at hql
              have := Nat.mul_pos (show 0 < len by omega) (show 0 < i.size by omega)
              simp only [List.length_nil] at hql
              omega
            obtain ⟨b, arr0, ty0, fz0, hA, hb0, hfit0, hbl⟩ := hbk (by omega)
            have hbb := hbl (by simp only [Key.ok]; omega)
            simp only [Key.blk] at hbb
            subst hbb
            have hbox := R.bxs h' q hqb hqne
            obtain ⟨arr, ty, k1, k2, k3, k4, k5⟩ := hbox
            rw [hb0] at k1
            simp only [Option.some.injEq, Obj.cells.injEq] at k1
            obtain ⟨rfl, rfl, rfl⟩ := k1
            have hm := Nat.mul_le_mul_right i.size hlc
            have hadd : (len + ys.length) * i.size = len * i.size + ys.length * i.size := Nat.add_mul ..
            have hnl' : news.toList.length = ys.length * i.size := by rw [Array.length_toList, hnl]
            -- the old cells
            have hold : RelCs c q.cs (arr0.toList.take (len * i.size)) := by
              refine RelCs.mk (by rw [List.length_take, Array.length_toList]; omega) fun j x v hx hv' => ?_
              rw [List.getElem?_take] at hv'
              split at hv'
              · obtain ⟨u, u1, u2⟩ := k3 j x hx
                rw [Array.getElem?_toList, u1, Option.some.injEq] at hv'
                rw [← hv']; exact u2
              · cases hv'
            have hsrcOld : Src P c.w.heap i.size (.slice A len cap) len ⟨arr0.toList.take (len * i.size)⟩ := fun w hw => ⟨rfl, by
              subst hA
              refine run_firstCells_some w i.size len _ len cap (arr0.toList.take (len * i.size)) (by rw [List.length_take, Array.length_toList]; omega) fun j u hj => ?_
              rw [addr_add, cell_heap hw _ rfl, Nat.zero_add, cell_of_heap hb0]
              rw [List.getElem?_take] at hj
              split at hj
              · rw [← Array.getElem?_toList]; exact hj
              · cases hj⟩
            intro fr' hw
            by_cases hroom : len + ys.length ≤ cap
            · have hm2 := Nat.mul_le_mul_right i.size hroom
              have hfit : len * i.size + news.toList.length ≤ arr0.size := by omega
              have hst := run_storeCells_at P (c.gh.β h') (len * i.size) ty0 news.toList 0 arr0 c.w hb0 (by omega) (oneOf hnews)
              simp only [Nat.add_zero] at hst
              have H := CxLe.row c (arr' := rowPut arr0 (len * i.size) news.toList) hb0 k4 (rowPut_size hfit)
              have hrun := run_append_gen (P := P) (ty := o.type) ht hu hi hz hby c.w hsrc (base := A) (sLen := len) (sCap := cap) (olds := #[]) (fun k => by omega) (fun k => by omega)
              rw [if_pos hroom, ← hv] at hrun
              have hheap : (c.row (c.gh.β h') (rowPut arr0 (len * i.size) news.toList)).w.heap[c.gh.β h']? = some (.cells (rowPut arr0 (len * i.size) news.toList) ty0 (0, 0)) := heap_setRow_same _ hb0
              have hnewbox : BoxRel (c.row (c.gh.β h') (rowPut arr0 (len * i.size) news.toList)) (c.gh.β h') (.home h') ⟨q.g + 1, 0, q.cs ++ ys.flatten.map C.v⟩ := by
                refine ⟨_, ty0, hheap, fun k => absurd rfl k, fun j x hx => ?_, k4, k5⟩
                rw [rowPut_get hfit]
                by_cases hj : j < len * i.size
                · rw [if_pos hj]
                  rw [List.getElem?_append_left (by omega)] at hx
                  obtain ⟨u, u1, u2⟩ := k3 j x hx
                  exact ⟨u, u1, RelC.mono H x u u2⟩
                · rw [if_neg hj]
                  rw [List.getElem?_append_right (by omega)] at hx
                  have hcs := relCs_v (hnews.mono H.rd)
                  obtain ⟨u, u1, u2⟩ := hcs.at hx
                  have hj2 : j - q.cs.length < news.toList.length := (List.getElem?_eq_some_iff.1 u1).1
                  rw [if_pos (by omega)]
                  rw [hql] at u1
                  exact ⟨u, u1, u2⟩
              have Rrow : RelFr e (c.row (c.gh.β h') (rowPut arr0 (len * i.size) news.toList)) { fr with bx := fr.bx.set h' { q with cs := [] } } a.tmps := by
                have hh : h' < fr.bx.length := (List.getElem?_eq_some_iff.1 hqb).1
                refine R.move H ?_ R.nfo rfl (fun b q' q1 q2 => ?_) (fun i' q' q1 q2 => ?_) (fun b b1 b2 => heap_setRow_other _ _ (by rintro rfl; have := (R.ows _ b1 b2).1; rw [k5] at this; cases this)) (fun b _ _ => ⟨rfl, rfl⟩) (by simp [Cx.row, World.setRow]) rfl rfl rfl
                · show c.gen = _
                  rw [genOf_set hh _ rfl, R.gen]
                  funext b
                  simp only [upd]
                  split
                  · rename_i eb; subst eb; rw [Fr.ob_loc hqb rfl]
                  · rfl
                · simp only [List.getElem?_set] at q1
                  split at q1
                  · simp only [Option.some.injEq] at q1
                    subst q1
                    exact absurd rfl q2
                  · rename_i eb
                    have hq' := R.bxs b q' q1 q2
                    refine hq'.row_other H ?_
                    obtain ⟨_, _, _, _, _, _, l5⟩ := hq'
                    intro k
                    have k : c.gh.β b = c.gh.β h' := k
                    rw [k, k5] at l5
                    cases l5
                    exact eb rfl
                · have hq' := R.fos i' q' q1 q2
                  refine hq'.row_other H ?_
                  obtain ⟨_, _, _, _, _, _, l5⟩ := hq'
                  intro k
                  have k : c.gh.φ i' = c.gh.β h' := k
                  rw [k, k5] at l5
                  cases l5
              obtain ⟨hdl, rfl⟩ := write_setb (writes_one hw)
              have hq1 : Fr.look { fr with bx := fr.bx.set h' { q with cs := [] } } (.home h') = some { q with cs := [] } := by
                simp only [Fr.look, List.getElem?_set_self hdl]
              obtain ⟨hg1, R'⟩ := RelFr.bump (a := a) Rrow (cs := q.cs ++ ys.flatten.map C.v) hq1 (fr' := { fr with bx := fr.bx.set h' ⟨q.g + 1, 0, q.cs ++ ys.flatten.map C.v⟩ }) (by
                simp only [Fr.write, List.length_set, if_pos hdl, List.set_set]) (fun _ => hnewbox)
              have Hb := H.trans (CxLe.bump (c.row (c.gh.β h') (rowPut arr0 (len * i.size) news.toList)) h')
              refine ⟨.slice A (len + ys.length) cap, _, hexec (w' := c.w.setRow (c.gh.β h') (rowPut arr0 (len * i.size) news.toList)) (hrun.trans ?_), Hb, R', RelT.one ?_⟩
              · subst hA
                simp only [addr_add, Sem.run_bind, Nat.zero_add]
                erw [hst]
                rfl
              · simp only [RelC, Key.le, Key.ok, Key.blk]
                have hgn : ((c.row (c.gh.β h') (rowPut arr0 (len * i.size) news.toList)).bump h').gen h' = q.g + 1 := by simp only [Cx.bump, upd_same, Cx.row, hg]
                refine ⟨by rw [hgn]; exact Nat.le_refl _, A, cap, rfl, hroom, fun _ => ⟨c.gh.β h', rowPut arr0 (len * i.size) news.toList, ty0, (0, 0), hA, hheap, by rw [rowPut_size hfit]; exact hfit0, fun _ => rfl⟩⟩
            · have hrun := run_append_gen (P := P) (ty := o.type) ht hu hi hz hby c.w hsrc (base := A) (sLen := len) (sCap := cap) (fun _ => hsrcOld) (fun k => fit_of_ok hok rfl k)
              rw [if_neg hroom, ← hv] at hrun
              have hos : (Array.mk (arr0.toList.take (len * i.size))).size = len * i.size := by
                show (arr0.toList.take (len * i.size)).length = _
                rw [List.length_take, Array.length_toList]; omega
              obtain ⟨g1, g2⟩ := grown_get c.w (len + ys.length) cap el (⟨arr0.toList.take (len * i.size)⟩ ++ news) z.cells i.size hzs (by rw [Array.size_append, hos, hnl, Nat.add_mul])
              have hcapg := grownCap_ge c.w (len + ys.length) cap el
              generalize harr : Array.mk (arr0.toList.take (len * i.size)) ++ news ++ Builtin.zeroCells z.cells (grownCap c.w (len + ys.length) cap el - (len + ys.length)) = arr at hrun g1 g2
              generalize hcp : grownCap c.w (len + ys.length) cap el = cap' at hrun g1 g2 hcapg
              have R0 := drew_rel R
              have H0 := CxLe.of_heap (c := c) (w' := c.w.drew) rfl
              have hcs : RelCs (c.at c.w.drew) (q.cs ++ ys.flatten.map C.v) (arr0.toList.take (len * i.size) ++ news.toList) := RelCs.mono H0 _ _ (hold.append (relCs_v hnews))
              obtain ⟨hdl, rfl⟩ := write_setb (writes_one hw)
              have hg0 : (c.at c.w.drew).gen h' = q.g := hg
              have R' := R0.allocH arr el 0 h' 0 (q.cs ++ ys.flatten.map C.v) hdl (fun _ => rfl) (fun k => absurd rfl k) (fun j x hj => by
                obtain ⟨v, v1, v2⟩ := hcs.at hj
                exact ⟨v, g1 j v (by rw [← Array.getElem?_toList, Array.toList_append]; exact v1), v2⟩)
              rw [hg0] at R'
              refine ⟨_, _, hexec hrun, H0.trans (CxLe.allocH ..), R', RelT.one ?_⟩
              simp only [RelC, Key.le, Key.ok, Key.blk]
              refine ⟨by simp only [Cx.allocH, upd_same]; omega, _, cap', rfl, hcapg, fun _ => ⟨c.w.heap.size, arr, el, (0, 0), rfl, heap_alloc_new .., by omega, fun _ => by simp only [Cx.allocH, upd_same]; rfl⟩⟩
          · cases h
        · simp [Fr.ask] at h
      · simp [Fr.ask] at h
    · simp [Fr.ask] at h

end
end Go.Dev
