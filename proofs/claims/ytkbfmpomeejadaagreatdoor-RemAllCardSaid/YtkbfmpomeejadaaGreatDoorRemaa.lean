/- Part 1 of 46 of what the theorem stands on. -/
import Derived.Calls

section
namespace Go.Ev
inductive Lf where
  | int (k : IntKind) (x : Int)
  | bool (b : Bool)
  | nat (n : Nat)
  | str (s : ByteArray)
  | ptr (id off : Nat)
  | slc (id off len cap : Nat)
  | map (id : Nat)
  | cst (v : Value)
  /-- A function value that has captured pointers. -/
  | clo (f : FuncId) (cs : List (Nat × Nat))
inductive FV where
  | one (x : Lf)
  | agg (l : List Lf)
inductive AV where
  | fv (x : FV)
  | tup (l : List FV)
  | fn (f : FuncId) (first caps : List FV)
  /-- The yield of the loop that the iterator is under. -/
  | yld
structure Blk where
  own : Bool
  sz : Nat
  get : Nat → Lf
  /-- A map's entries. -/
  es : Option (List (Lf × FV)) := none
structure Mem where
  len : Nat
  blk : Nat → Blk
/-- What of a type's description counts here. -/
inductive TD where
  | int (k : IntKind)
  | struct (fs : List (Nat × Nat))
  | array (n e : Nat)
  | slice (e : Nat)
  | map (k e : Nat)
  | str
  | bool
  | func
  | ptr
  | other
structure Ty where
  desc : TD
  size : Nat
  bytes : Nat
  zero : List Lf
inductive Arg where
  | fv (x : FV)
  | lst (n : Nat) (cells : List Lf)
structure Ctr where
  f : FuncId
  R : Type
  K : List Arg → Option R
  res : R → AV
abbrev Loc := Nat × Nat × Nat
inductive Lab where
  | p
  | r (l : List Loc)
  | w (l : Loc)
  | a (id : Nat)
  | c (len : Nat) (ws : List Loc)
/-- What a function that only looks comes to, entered in place. -/
structure Sm where
  f : FuncId
  R : Type
  K : List AV → Mem → Option R
  res : R → AV
abbrev Tm := Nat → AV
/-- A round of a range over a function: the frame's size, the parameters, the assignments, the body, the temporaries that it begins with. -/
structure Rd where
  nt : Nat
  ps : Array Nat
  assign : Code
  body : Code
  tm : Tm
structure Data where
  types : List (Nat × Ty)
  globs : List (Nat × List Lf)
  eqs : List (Nat × List (Option IntKind))
  funs : List (Nat × Func)
  /-- What some functions come to that are entered in place. -/
  sums : List Sm
  ctrs : List Ctr
  /-- A whole function's own frame: a range over a function may stand there. -/
  top : Bool := true
  /-- What yield asks for, in an iterator's own frame. -/
  yo : Option Rd := none
/-- Within: no range over a function, no yield. -/
def Data.low (D : Data) : Data := { D with top := false, yo := none }
def Data.iter (D : Data) (rd : Rd) : Data := { D with top := false, yo := some rd }
/-- The number that stands for yield. -/
def yId : Nat := 4294967295
inductive Ex where
  | normal
  | exit (id : Nat)
  | ret
def undefA : AV := .fv (.one (.cst undef))
def look {α : Type} : List (Nat × α) → Nat → Option α
  | [], _ => none
  | (n, a) :: l, m => bif Nat.beq n m then some a else look l m
def lookC : List Ctr → Nat → Option Ctr
  | [], _ => none
  | c :: l, m => bif Nat.beq c.f m then some c else lookC l m
def lookS : List Sm → Nat → Option Sm
  | [], _ => none
  | c :: l, m => bif Nat.beq c.f m then some c else lookS l m
def idxG : List (Nat × List Lf) → Nat → Nat → Option Nat
  | [], _, _ => none
  | (n, _) :: l, m, i => bif Nat.beq n m then some i else idxG l m (i + 1)
def nthD {α : Type} (d : α) : List α → Nat → α
  | [], _ => d
  | a :: _, 0 => a
  | _ :: l, n + 1 => nthD d l n
/-- A constant's leaf. -/
def leafOf : Value → Option Lf
  | .int k n => some (.int k n)
  | .bool b => some (.bool b)
  | .string s => some (.str s)
  | .slice none 0 0 => some (.nat 0)
  | .agg _ => none
  | v => some (.cst v)
def leafs : List Value → Option (List Lf)
  | [] => some []
  | v :: l => match leafOf v with
    | none => none
    | some x => match leafs l with
      | none => none
      | some xs => some (x :: xs)
def ofV : Value → Option AV
  | .agg cs => match leafs cs.toList with
    | some l => some (.fv (.agg l))
    | none => none
  | .func (.func f) ⟨[]⟩ ⟨[]⟩ => some (.fn f [] [])
  | v => match leafOf v with
    | some x => some (.fv (.one x))
    | none => none
def FV.cells : FV → List Lf
  | .one x => [x]
  | .agg l => l
def ptrsOf : List FV → Option (List (Nat × Nat))
  | [] => some []
  | .one (.ptr a b) :: l => match ptrsOf l with
    | some r => some ((a, b) :: r)
    | none => none
  | _ => none
def ptrF (p : Nat × Nat) : FV := .one (.ptr p.1 p.2)
def AV.flat : AV → Option FV
  | .fv x => some x
  | .fn f [] [] => some (.one (.cst (.func (.func f) #[] #[])))
  | .fn f [] caps => match ptrsOf caps with
    | some cs => some (.one (.clo f cs))
    | none => none
  | _ => none
def AV.asFn : AV → Option (FuncId × List FV × List FV)
  | .fn f first caps => some (f, first, caps)
  | .fv (.one (.cst (.func (.func f) ⟨[]⟩ ⟨[]⟩))) => some (f, [], [])
  | .fv (.one (.clo f cs)) => some (f, [], cs.map ptrF)
  | _ => none
def evO (D : Data) (tm : Tm) : Operand → Option AV
  | .tmp t => some (tm t)
  | .const v => ofV v
  | .func f => some (.fn f [] [])
  | .global g => (idxG D.globs g 0).map fun i => .fv (.one (.ptr i 0))
def evOs (D : Data) (tm : Tm) : List Operand → Option (List AV)
  | [] => some []
  | x :: l => match evO D tm x with
    | none => none
    | some a => match evOs D tm l with
      | none => none
      | some as => some (a :: as)
def flats : List AV → Option (List FV)
  | [] => some []
  | a :: l => match a.flat with
    | none => none
    | some x => match flats l with
      | none => none
      | some xs => some (x :: xs)
def Mem.set (m : Mem) (id : Nat) (b : Blk) : Mem := { m with blk := fun i => bif Nat.beq i id then b else m.blk i }
def okCells : List Lf → Bool
  | [] => true
  | .cst (.tuple _) :: _ => false
  | .cst (.agg _) :: _ => false
  | _ :: l => okCells l
def noEs : Option (List (Lf × FV)) → Bool
  | none => true
  | some _ => false
def ofList (l : List Lf) (n : Nat) : Lf := nthD (.cst undef) l n
def Mem.put (m : Mem) (id off : Nat) (l : List Lf) : Mem :=
  m.set id { m.blk id with get := fun j => bif Nat.ble off j && Nat.blt j (off + l.length) then ofList l (j - off) else (m.blk id).get j }
/-- The cells from one on. -/
def tab (get : Nat → Lf) : Nat → Nat → List Lf
  | _, 0 => []
  | off, n + 1 => get off :: tab get (off + 1) n
def isAggD : TD → Bool
  | .struct _ | .array _ _ => true
  | _ => false
def redD : TypeDesc → TD
  | .int k => .int k
  | .struct fs => .struct (fs.toList.map fun f => (f.type, f.offset))
  | .array n e => .array n e
  | .slice e => .slice e
  | .map k e => .map k e
  | .string => .str
  | .bool => .bool
  | .func _ _ _ => .func
  | .pointer _ => .ptr
  | _ => .other
def isAggV : Value → Bool
  | .agg _ => true
  | _ => false
/-- A type's row, of the program. -/
def tyOf (P : Program) (t : Nat) : Option Ty :=
  match P.underlying t, P.info? t with
  | some d, some i => match i.zero with
    | some z => match leafs z.cells.toList with
      | some l => bif Bool.xor (isAggV z) (isAggD (redD d)) then none else some { desc := redD d, size := i.size, bytes := i.bytes, zero := l }
      | none => none
    | none => none
  | _, _ => none
section
variable {R : Type}
def asB (a : AV) (k : Bool → Option R) : Option R :=
  match a with
  | .fv (.one (.bool b)) => k b
  | _ => none
def asI (a : AV) (k : IntKind → Int → Option R) : Option R :=
  match a with
  | .fv (.one (.int q x)) => k q x
  | _ => none
def asP (a : AV) (k : Nat → Nat → Option R) : Option R :=
  match a with
  | .fv (.one (.ptr id off)) => k id off
  | _ => none
/-- One of the numbers below n that an index is. -/
def enumC (i : Int) (k : Nat → Option R) : Nat → Nat → Option R
  | _, 0 => none
  | j, n + 1 => bif decide (i = (j : Int)) then k j else enumC i k (j + 1) n
def idxC (i : Int) (n : Nat) (k : Nat → Option R) : Option R :=
  bif Nat.ble n 16 then enumC i k 0 n else bif decide (0 ≤ i) && decide (i < (n : Int)) then k i.toNat else none
def intOp (op : BinOp) (k : IntKind) (x y : Int) : Option Int :=
  match op with
  | .add => some (k.wrap (x + y))
  | .sub => some (k.wrap (x - y))
  | .mul => some (k.wrap (x * y))
  | .and => some (k.wrap (BitVec.ofInt k.bits x &&& BitVec.ofInt k.bits y).toNat)
  | .or => some (k.wrap (BitVec.ofInt k.bits x ||| BitVec.ofInt k.bits y).toNat)
  | .xor => some (k.wrap (BitVec.ofInt k.bits x ^^^ BitVec.ofInt k.bits y).toNat)
  | .andNot => some (k.wrap (BitVec.ofInt k.bits x &&& ~~~ BitVec.ofInt k.bits y).toNat)
  | _ => none
def intCmp (op : BinOp) (x y : Int) : Option Bool :=
  match op with
  | .eql => some (decide (x = y))
  | .neq => some (!decide (x = y))
  | .lss => some (decide (x < y))
  | .leq => some (decide (x ≤ y))
  | .gtr => some (decide (y < x))
  | .geq => some (decide (y ≤ x))
  | _ => none
def shl (k : IntKind) (x y : Int) : Int := k.wrap (x * 2 ^ (min y.toNat k.bits))
def shr (k : IntKind) (x y : Int) : Int := x.fdiv (2 ^ (min y.toNat k.bits))
/-- Are leaves that are whole numbers and bools, of these kinds, all equal? -/
def eqL : List (Option IntKind) → List Lf → List Lf → Option Bool
  | [], [], [] => some true
  | some q :: ks, .int k x :: l, .int k' y :: r => bif decide (q = k) && decide (q = k') then match eqL ks l r with
      | some c => some (decide (x = y) && c)
      | none => none
    else none
  | none :: ks, .bool x :: l, .bool y :: r => match eqL ks l r with
    | some c => some ((x == y) && c)
    | none => none
  | _, _, _ => none
def memN (n : Nat) : List Nat → Bool
  | [] => false
  | a :: l => bif Nat.beq a n then true else memN n l
def binC (D : Data) (op : BinOp) (t : Nat) (x y : AV) (k : AV → Option R) : Option R :=
  match x, y with
  | .fv (.one (.int q a)), .fv (.one (.int q' b)) =>
    match op with
    | .shl => bif decide (0 ≤ b) then k (.fv (.one (.int q (shl q a b)))) else none
    | .shr => bif decide (0 ≤ b) then k (.fv (.one (.int q (shr q a b)))) else none
    | .quo => bif decide (q = q') && !decide (b = 0) then k (.fv (.one (.int q (q.wrap (a.tdiv b))))) else none
    | .rem => bif decide (q = q') && !decide (b = 0) then k (.fv (.one (.int q (a.tmod b)))) else none
    | _ =>
      bif decide (q = q') then
        match intOp op q a b with
        | some c => k (.fv (.one (.int q c)))
        | none => match intCmp op a b with
          | some c => k (.fv (.one (.bool c)))
          | none => none
      else none
  | .fv (.one (.bool a)), .fv (.one (.bool b)) =>
    match look D.types t with
    | some { desc := .bool, .. } => match op with
      | .eql => k (.fv (.one (.bool (a == b))))
      | .neq => k (.fv (.one (.bool (!(a == b)))))
      | _ => none
    | _ => none
  | .fv (.agg l), .fv (.agg r) =>
    match look D.eqs t with
    | some ks => match op, eqL ks l r with
      | .eql, some c => k (.fv (.one (.bool c)))
      | .neq, some c => k (.fv (.one (.bool (!c))))
      | _, _ => none
    | none => none
  | f, .fv (.one (.cst .nilFunc)) =>
    match look D.types t, f.asFn with
    | some { desc := .func, .. }, some _ => match op with
      | .eql => k (.fv (.one (.bool false)))
      | .neq => k (.fv (.one (.bool true)))
      | _ => none
    | _, _ => none
  | .fv (.one (.ptr _ _)), .fv (.one (.cst (.pointer none))) =>
    match look D.types t with
    | some { desc := .ptr, .. } => match op with
      | .eql => k (.fv (.one (.bool false)))
      | .neq => k (.fv (.one (.bool true)))
      | _ => none
    | _ => none
  | _, _ => none
def unC (op : UnOp) (x : AV) (k : AV → Option R) : Option R :=
  match op, x with
  | .neg, .fv (.one (.int q a)) => k (.fv (.one (.int q (q.wrap (0 - a)))))
  | .not, .fv (.one (.bool b)) => k (.fv (.one (.bool (!b))))
  | _, _ => none
def convC (D : Data) (dst : Nat) (x : AV) (k : AV → Option R) : Option R :=
  match look D.types dst with
  | some { desc := .int q, .. } => asI x fun _ a => k (.fv (.one (.int q (q.wrap a))))
  | _ => none
def fillL (place : Nat → Option (Nat × Nat)) (cells : List Lf) : List (Nat × List Lf) → Option (List Lf)
  | [] => some cells
  | (i, v) :: rest =>
    match place i with
    | none => none
    | some (off, size) =>
      bif Nat.beq v.length size && Nat.ble (off + v.length) cells.length then
        fillL place (cells.take off ++ v ++ cells.drop (off + v.length)) rest
      else none
def partsL (D : Data) (tm : Tm) : List (Nat × Operand) → Option (List (Nat × List Lf))
  | [] => some []
  | (i, x) :: l => match evO D tm x with
    | none => none
    | some a => match a.flat with
      | none => none
      | some v => match partsL D tm l with
        | none => none
        | some ps => some ((i, v.cells) :: ps)
def nthO {α : Type} : List α → Nat → Option α
  | [], _ => none
  | a :: _, 0 => some a
  | _ :: l, n + 1 => nthO l n
def fieldPl (D : Data) (fs : List (Nat × Nat)) (i : Nat) : Option (Nat × Nat) :=
  match nthO fs i with
  | none => none
  | some (t, off) => match look D.types t with
    | none => none
    | some ty => some (off, ty.size)
def allIn (D : Data) : List (Nat × Nat) → Bool
  | [] => true
  | (t, _) :: l => match look D.types t with
    | none => false
    | some _ => allIn D l
def buildL (D : Data) (t : Nat) (ps : List (Nat × List Lf)) : Option (List Lf) :=
  match look D.types t with
  | some { desc := .struct fs, zero := z, .. } => bif allIn D fs then fillL (fieldPl D fs) z ps else none
  | some { desc := .array _ e, zero := z, .. } =>
    match look D.types e with
    | some te => fillL (fun i => some (i * te.size, te.size)) z ps
    | none => none
  | _ => none
def repL (z : List Lf) : Nat → List Lf
  | 0 => []
  | n + 1 => z ++ repL z n
def partL (D : Data) (t : Nat) (cs : List Lf) (off : Nat) : Option FV :=
  match look D.types t with
  | none => none
  | some ty => bif isAggD ty.desc then some (.agg ((cs.drop off).take ty.size)) else
    match nthO cs off with
    | some x => some (.one x)
    | none => none
def loadC (D : Data) (t : Nat) (m : Mem) (id off : Nat) (k : AV → Loc → Option R) : Option R :=
  match look D.types t with
  | none => none
  | some ty =>
    bif Nat.ble (off + ty.size) (m.blk id).sz && Nat.blt id m.len && noEs (m.blk id).es && Nat.blt 0 ty.size then
      bif isAggD ty.desc then k (.fv (.agg (tab (m.blk id).get off ty.size))) (id, off, ty.size)
      else bif Nat.beq ty.size 1 then k (.fv (.one ((m.blk id).get off))) (id, off, 1) else none
    else none
/-- No pointer among them. -/
def pureL : List Lf → Bool
  | [] => true
  | .ptr _ _ :: _ => false
  | .slc _ _ _ _ :: _ => false
  | .map _ :: _ => false
  | .clo _ _ :: _ => false
  | _ :: l => pureL l
/-- An argument as a contract takes it: a slice by what it holds. -/
def toArg (D : Data) (m : Mem) (t : Nat) : AV → Option (Arg × List Loc)
  | .fv (.one (.slc id off n c)) =>
    match look D.types t with
    | some { desc := .slice e, .. } =>
      match look D.types e with
      | some te =>
        bif Nat.beq c n && Nat.ble (off + n * te.size) (m.blk id).sz && Nat.blt id m.len && noEs (m.blk id).es && Nat.blt 0 (n * te.size) && pureL (tab (m.blk id).get off (n * te.size)) then
          some (.lst n (tab (m.blk id).get off (n * te.size)), [(id, off, n * te.size)]) else none
      | none => none
    | _ => none
  | a => match a.flat with
    | some x => bif pureL x.cells then some (.fv x, []) else none
    | none => none
def toArgs (D : Data) (m : Mem) : List Nat → List AV → Option (List Arg × List Loc)
  | _, [] => some ([], [])
  | t :: ts, a :: as =>
    match toArg D m t a with
    | none => none
    | some (x, l) => match toArgs D m ts as with
      | none => none
      | some (xs, ls) => some (x :: xs, l ++ ls)
  | [], _ :: _ => none
def labOf (l : List Loc) : Lab :=
  match l with
  | [] => .p
  | _ => .r l
def mn (x y : Int) : Int := bif decide (y < x) then y else x
def mx (x y : Int) : Int := bif decide (x < y) then y else x
/-- The number of digits to the base 2^32. -/
def nd (n : Nat) : Nat := bif Nat.beq n 0 then 0 else Nat.log2 n / 32 + 1
def foldI (f : Int → Int → Int) (q : IntKind) : Int → List AV → (AV → Option R) → Option R
  | a, [], k => k (.fv (.one (.int q a)))
  | a, .fv (.one (.int q' b)) :: l, k => bif decide (q = q') then foldI f q (f a b) l k else none
  | _, _, _ => none
def builtC (D : Data) (b : Builtin) (ts : List Nat) (as : List AV) (k : AV → Option R) : Option R :=
  match b, as with
  | .len, [.fv (.one (.nat n))] => match ts with
    | [t] => match look D.types t with
      | some { desc := .slice _, .. } => k (.fv (.one (.int .i64 (nd n))))
      | _ => none
    | _ => none
  | .len, [.fv (.one (.slc _ _ n _))] => match ts with
    | [t] => match look D.types t with
      | some { desc := .slice _, .. } => k (.fv (.one (.int .i64 n)))
      | _ => none
    | _ => none
  | .len, [.fv (.one (.str s))] => match ts with
    | [t] => match look D.types t with
      | some { desc := .str, .. } => k (.fv (.one (.int .i64 s.size)))
      | _ => none
    | _ => none
  | .min, .fv (.one (.int q a)) :: l => foldI mn q a l k
  | .max, .fv (.one (.int q a)) :: l => foldI mx q a l k
  | _, _ => none
abbrev CallK : Type 1 := (R : Type) → FuncId → List AV → Mem → (AV → Mem → List Loc → Option R) → Option R
/-- A call of a function by its number. -/
def callF (D : Data) (call : CallK) (f : FuncId) (ts : List Nat) (as : List AV) (m : Mem) (k : AV → Mem → Lab → Option R) : Option R :=
  match lookC D.ctrs f with
    | some c => match toArgs D m ts as with
      | none => none
      | some (xs, ls) => (c.K xs).bind fun r => k (c.res r) m (labOf ls)
    | none => match lookS D.sums f with
      | some s => (s.K as m).bind fun r => k (s.res r) m (.c m.len [])
      | none => bif Nat.beq f yId then none else call R f as m fun v m' ws => k v m' (.c m.len ws)
/-- A slice's bounds. -/
def boundC (x : Option AV) (dflt : Nat) (y : Nat) (k : Nat → Option R) : Option R :=
  match x with
  | none => k dflt
  | some a => asI a fun _ i => bif decide (0 ≤ i) && decide (i ≤ (y : Int)) then k i.toNat else none
def optO (D : Data) (tm : Tm) : Option Operand → Option (Option AV)
  | none => some none
  | some x => match evO D tm x with
    | none => none
    | some a => some (some a)
def sliceC (D : Data) (t : Nat) (a : AV) (lo hi mx : Option AV) (k : AV → Option R) : Option R :=
  match a, look D.types t with
  | .fv (.one (.slc id off n c)), some { desc := .slice e, .. } =>
    match look D.types e with
    | none => none
    | some te =>
      bif !(mx.isSome && hi.isNone) then boundC mx c c fun m => boundC hi n m fun h => boundC lo 0 h fun l =>
        bif !(Nat.beq m l) then k (.fv (.one (.slc id (off + l * te.size) (h - l) (m - l)))) else none
      else none
  | .fv (.one (.ptr id off)), some { desc := .array n e, .. } =>
    match look D.types e with
    | none => none
    | some te =>
      bif !(mx.isSome && hi.isNone) then boundC mx n n fun m => boundC hi n m fun h => boundC lo 0 h fun l =>
        bif !(Nat.beq m l) then k (.fv (.one (.slc id (off + l * te.size) (h - l) (m - l)))) else none
      else none
  | _, _ => none
/-- Are two keys one? Whole numbers of one kind, or strings. -/
def keyD (d : TD) (x y : Lf) : Option Bool :=
  match d, x, y with
  | .int _, .int q a, .int q' b => bif decide (q = q') then some (decide (a = b)) else none
  | .str, .str a, .str b => some (a == b)
  | _, _, _ => none
def keyC (d : TD) (x y : Lf) (k : Bool → Option R) : Option R :=
  match keyD d x y with
  | none => none
  | some b => k b
def keyTD : TD → Bool
  | .int _ | .str => true
  | _ => false
def findC (d : TD) (x : Lf) (found : FV → Option R) (no : Option R) : List (Lf × FV) → Option R
  | [] => no
  | (y, v) :: l => keyC d x y fun b => bif b then found v else findC d x found no l
def zeroFV (ty : Ty) : Option FV :=
  bif isAggD ty.desc then some (.agg ty.zero) else
  match ty.zero with
  | [x] => some (.one x)
  | _ => none
def lookupC (D : Data) (m : Mem) (t : Nat) (x i : AV) (ok : Bool) (k : AV → Loc → Option R) : Option R :=
  match x, i, look D.types t with
  | .fv (.one (.map id)), .fv (.one key), some { desc := .map kt et, .. } =>
    match (m.blk id).es, look D.types kt, look D.types et with
    | some es, some kty, some ety => match zeroFV ety with
      | none => none
      | some z => bif Nat.blt id m.len && keyTD kty.desc then
          let r (v : FV) (b : Bool) : Option R := k (bif ok then .tup [v, .one (.bool b)] else .fv v) (id, 0, 1)
          findC kty.desc key (fun v => r v true) (r z false) es
        else none
    | _, _, _ => none
  | _, _, _ => none
def insertC (D : Data) (m : Mem) (t : Nat) (x i : AV) (v : AV) (k : Mem → Loc → Option R) : Option R :=
  match x, i, look D.types t, v.flat with
  | .fv (.one (.map id)), .fv (.one key), some { desc := .map kt _, .. }, some v =>
    match (m.blk id).es, look D.types kt with
    | some es, some kty =>
      bif Nat.blt id m.len && (m.blk id).own && keyTD kty.desc then
        findC kty.desc key (fun _ => none) (k (m.set id { m.blk id with es := some (es ++ [(key, v)]) }) (id, 0, 1)) es
      else none
    | _, _ => none
  | _, _, _, _ => none
/-- A string's byte. -/
def strAt (s : ByteArray) (i : Nat) : Int := match s[i]? with
  | some b => (b.toNat : Int)
  | none => 0
/-- One operation. -/
def opC (D : Data) (call : CallK) (o : Op) (slot : Nat) (tm : Tm) (m : Mem) (k : AV → Mem → Lab → Option R) : Option R :=
  let e (x : Operand) (k : AV → Option R) : Option R := match evO D tm x with
    | none => none
    | some a => k a
  match o with
  | .move x | .assign x => e x fun a => k a m .p
  | .pick c a b => e c fun c => e a fun a => e b fun b => asB c fun c => bif c then k a m .p else k b m .p
  | .alloc _ => k (.fv (.one (.ptr slot 0))) m .p
  | .box _ x => e x fun a => match a.flat with
    | none => none
    | some v => k (.fv (.one (.ptr slot 0))) (m.set slot { own := true, sz := v.cells.length, get := ofList v.cells }) (.a slot)
  | .build t parts => match partsL D tm parts.toList with
    | none => none
    | some ps => match buildL D t ps with
      | none => none
      | some l => k (.fv (.agg l)) m .p
  | .buildSlice t len parts => match partsL D tm parts.toList, look D.types t with
    | some ps, some { desc := .slice s, .. } => match look D.types s with
      | none => none
      | some ts => bif Nat.ble (len * ts.size) 16777216 && !(Nat.beq (len * ts.size) 0) && Nat.beq ts.zero.length ts.size then
          match fillL (fun i => some (i * ts.size, ts.size)) (repL ts.zero len) ps with
          | none => none
          | some l => k (.fv (.one (.slc slot 0 len len))) (m.set slot { own := true, sz := l.length, get := ofList l }) (.a slot)
        else none
    | _, _ => none
  | .load t a => e a fun a => asP a fun id off => loadC D t m id off fun v l => k v m (.r [l])
  | .store t a x => e a fun a => e x fun x => asP a fun id off => match x.flat, look D.types t with
    | some v, some ty => bif okCells v.cells && Nat.beq v.cells.length ty.size && (m.blk id).own && noEs (m.blk id).es && Nat.ble (off + v.cells.length) (m.blk id).sz && Nat.blt id m.len then
        k undefA (m.put id off v.cells) (.w (id, off, v.cells.length)) else none
    | _, _ => none
  | .nilCheck x => e x fun a => match a with
    | .fv (.one (.ptr _ _)) => k a m .p
    | .fn _ _ _ => k a m .p
    | .yld => k a m .p
    | _ => none
  | .binOp op t x y _ => e x fun x => e y fun y => binC D op t x y fun v => k v m .p
  | .unOp op _ x => e x fun x => unC op x fun v => k v m .p
  | .convert s d x => e x fun x => match look D.types s with
    | none => none
    | some _ => convC D d x fun v => k v m .p
  | .sliceToArrayPointer t x => e x fun x => match x, look D.types t with
    | .fv (.one (.slc id off n _)), some { desc := .array c _, .. } => bif Nat.ble c n then k (.fv (.one (.ptr id off))) m .p else none
    | _, _ => none
  | .makeFunc (.func f) first caps => match evOs D tm first.toList, evOs D tm caps.toList with
    | some bs, some as => match flats bs, flats as with
      | some us, some vs => k (.fn f us vs) m .p
      | _, _ => none
    | _, _ => none
  | .makeSlice t l c => e l fun l => e c fun c => asI l fun _ l => asI c fun _ c => match look D.types t with
    | some { desc := .slice s, .. } => match look D.types s with
      | none => none
      | some ts => bif decide (0 ≤ l) && decide (l ≤ c) && decide (ts.bytes * c ≤ 281474976710656) && decide (c < 9223372036854775808) && decide (0 < c) && Nat.beq ts.zero.length ts.size && !Nat.beq ts.size 0 then
          k (.fv (.one (.slc slot 0 l.toNat c.toNat))) (m.set slot { own := true, sz := c.toNat * ts.size, get := fun j => ofList ts.zero (j % ts.size) }) (.a slot)
        else none
    | _ => none
  | .slice t x lo hi mx => e x fun x => match optO D tm lo, optO D tm hi, optO D tm mx with
    | some lo, some hi, some mx => sliceC D t x lo hi mx fun v => k v m .p
    | _, _, _ => none
  | .fieldAddr s x i => e x fun x => asP x fun id off => match look D.types s with
    | some { desc := .struct fs, .. } => match fieldPl D fs i with
      | some (o, n) => bif Nat.beq n 0 then none else k (.fv (.one (.ptr id (off + o)))) m .p
      | none => none
    | _ => none
  | .field s x i => e x fun x => match x, look D.types s with
    | .fv (.agg l), some { desc := .struct fs, .. } => match nthO fs i with
      | none => none
      | some (t, off) => match partL D t l off with
        | some v => k (.fv v) m .p
        | none => none
    | _, _ => none
  | .indexAddr t x i => e x fun x => e i fun i => asI i fun _ i => match x, look D.types t with
    | .fv (.one (.ptr id off)), some { desc := .array n s, .. } => match look D.types s with
      | none => none
      | some ts => idxC i n fun j => k (.fv (.one (.ptr id (off + j * ts.size)))) m .p
    | .fv (.one (.slc id off n _)), some { desc := .slice s, .. } => match look D.types s with
      | none => none
      | some ts => idxC i n fun j => k (.fv (.one (.ptr id (off + j * ts.size)))) m .p
    | _, _ => none
  | .index t x i => e x fun x => e i fun i => asI i fun _ i => match x, look D.types t with
    | .fv (.agg l), some { desc := .array n s, .. } => match look D.types s with
      | none => none
      | some ts => idxC i n fun j => match partL D s l (j * ts.size) with
        | some v => k (.fv v) m .p
        | none => none
    | .fv (.one (.str s)), some { desc := .str, .. } => bif decide (0 ≤ i) && decide (i < (s.size : Int)) then k (.fv (.one (.int .u8 (strAt s i.toNat)))) m .p else none
    | _, _ => none
  | .makeMap _ none => k (.fv (.one (.map slot))) (m.set slot { own := true, sz := 0, get := fun _ => .cst undef, es := some [] }) (.a slot)
  | .insert t x i v => e x fun x => e i fun i => e v fun v => insertC D m t x i v fun m' l => k undefA m' (.c m.len [l])
  | .lookup t x i ok => e x fun x => e i fun i => lookupC D m t x i ok fun v l => k v m (.r [l])
  | .extract x i => e x fun x => match x with
    | .tup l => match nthO l i with
      | some v => k (.fv v) m .p
      | none => none
    | _ => none
  | .call { callee := .builtin b, args := as, argTypes := ts } => match evOs D tm as.toList with
    | none => none
    | some as => builtC D b ts.toList as fun v => k v m .p
  | .call { callee := .value f, args := as, argTypes := ts } => e f fun f => match f with
    | .yld => match evOs D tm as.toList with
      | some as => call R yId as m fun v m' ws => k v m' (.c m.len ws)
      | none => none
    | f => match f.asFn, evOs D tm as.toList with
      | some (f, first, caps), some as => callF D call f ts.toList (first.map .fv ++ (as ++ caps.map .fv)) m k
      | _, _ => none
  | _ => none
def isAl : Op → Bool
  | .alloc _ | .box _ _ | .buildSlice _ _ _ | .makeSlice _ _ _ | .makeMap _ _ => true
  | _ => false
/-- The blocks that a region's operations make, laid ahead of it. -/
def slotsL (D : Data) : List Oper → Option (List Blk)
  | [] => some []
  | o :: l => match slotsL D l with
    | none => none
    | some bs => match o.op with
      | .alloc t => match look D.types t with
        | some ty => some ({ own := true, sz := ty.zero.length, get := ofList ty.zero } :: bs)
        | none => none
      | _ => bif isAl o.op then some ({ own := true, sz := 0, get := fun _ => .cst undef } :: bs) else some bs
def Mem.add (m : Mem) (bs : List Blk) : Mem :=
  { len := m.len + bs.length, blk := fun i => bif Nat.ble m.len i then nthD { own := true, sz := 0, get := fun _ => .cst undef } bs (i - m.len) else m.blk i }
def putT (d : Option Nat) (v : AV) (tm : Tm) : Tm :=
  match d with
  | none => tm
  | some d => fun t => bif Nat.beq t d then v else tm t
def dstOk (nt : Nat) : Option Nat → Bool
  | none => true
  | some d => Nat.blt d nt
def guardT (all : List Oper) (j : Nat) : Option Nat :=
  match nthO all j with
  | some o => o.dst
  | none => none
/-- One operation of a region, its guard looked at. -/
def stepC (D : Data) (call : CallK) (nt : Nat) (all : List Oper) (o : Oper) (slot : Nat) (tm : Tm) (m : Mem) (k : Tm → Mem → Lab → Option R) : Option R :=
  let go (tm : Tm) : Option R := opC D call o.op slot tm m fun v m' l => bif dstOk nt o.dst then k (putT o.dst v tm) m' l else none
  let skip (tm : Tm) : Option R := bif dstOk nt o.dst then k (putT o.dst undefA tm) m .p else none
  match o.guard with
  | none => go tm
  | some (j, want) => match guardT all j with
    | none => none
    | some t => match tm t with
      | .fv (.one (.bool b)) => match want with
        | true => bif b then go (putT (some t) (.fv (.one (.bool true))) tm) else skip (putT (some t) (.fv (.one (.bool false))) tm)
        | false => bif b then skip (putT (some t) (.fv (.one (.bool true))) tm) else go (putT (some t) (.fv (.one (.bool false))) tm)
      | .fv (.one (.cst (.tuple _))) => skip tm
      | _ => none
def nextSlot (o : Oper) (slot : Nat) : Nat := bif isAl o.op then slot + 1 else slot
/-- A region's operations, one behind the other. -/
def opsC (D : Data) (call : CallK) (nt : Nat) (all : List Oper) : List Oper → Nat → Tm → Mem → List Lab → (Tm → Mem → List Lab → Option R) → Option R
  | [], _, tm, m, ls, k => k tm m ls
  | o :: rest, slot, tm, m, ls, k => stepC D call nt all o slot tm m fun tm m l => opsC D call nt all rest (nextSlot o slot) tm m (l :: ls) k
def wrs : List Lab → List Loc
  | [] => []
  | .w l :: ls => l :: wrs ls
  | .c _ l :: ls => l ++ wrs ls
  | .a i :: ls => (i, 0, 0) :: wrs ls
  | _ :: ls => wrs ls
def Loc.apart (a b : Loc) : Bool := !(Nat.beq a.1 b.1) || Nat.ble (a.2.1 + a.2.2) b.2.1 || Nat.ble (b.2.1 + b.2.2) a.2.1
def apartL (a : Loc) : List Loc → Bool
  | [] => true
  | b :: l => Loc.apart a b && apartL a l
def apartLs : List Loc → List Loc → Bool
  | [], _ => true
  | a :: l, r => apartL a r && apartLs l r
def offId (i : Nat) : List Loc → Bool
  | [] => true
  | a :: l => !(Nat.beq a.1 i) && offId i l
def lowIds (n : Nat) : List Loc → Bool
  | [] => true
  | a :: l => Nat.blt a.1 n && lowIds n l
def Lab.indep : Lab → Lab → Bool
  | .p, _ | _, .p | .r _, .r _ => true
  | .r l, .w q | .w q, .r l => apartL q l
  | .r l, .a i | .a i, .r l => offId i l
  | .r l, .c n ws | .c n ws, .r l => lowIds n l && apartLs l ws
  | .w q, .w u => Loc.apart q u
  | .w q, .a i | .a i, .w q => !(Nat.beq q.1 i)
  | .a i, .a j => !(Nat.beq i j)
  | _, _ => false
def edges (o : Oper) : List Nat := (o.after.toList.filter (Region.binds .any ·)).map (·.on)
def maskOf (acc : List Nat) : List Nat → Nat
  | [] => 0
  | e :: l => Nat.lor (Nat.lor (Nat.shiftLeft 1 e) (nthD 0 acc e)) (maskOf acc l)
/-- Of each operation all that it waits for, a bit each. -/
def masks : List Oper → List Nat → List Nat
  | [], acc => acc
  | o :: l, acc => masks l (acc ++ [maskOf acc (edges o)])
def tmpsOf : List Operand → List Nat
  | [] => []
  | .tmp t :: l => t :: tmpsOf l
  | _ :: l => tmpsOf l
/-- The temporaries that an operation reads. -/
def readsOf (all : List Oper) (o : Oper) : List Nat :=
  match o.guard with
  | none => tmpsOf o.op.operands.toList
  | some (j, _) => match guardT all j with
    | none => tmpsOf o.op.operands.toList
    | some t => t :: tmpsOf o.op.operands.toList
def notIn (d : Option Nat) (l : List Nat) : Bool :=
  match d with
  | none => true
  | some d => !memN d l
def notEq (d e : Option Nat) : Bool :=
  match d, e with
  | some d, some e => !Nat.beq d e
  | _, _ => true
structure Foot where
  dst : Option Nat
  reads : List Nat
  lab : Lab
def Foot.indep (a b : Foot) : Bool :=
  notIn a.dst b.reads && notIn b.dst a.reads && notEq a.dst b.dst && Lab.indep a.lab b.lab
def foots (all : List Oper) : List Oper → List Lab → List Foot
  | o :: os, l :: ls => ⟨o.dst, readsOf all o, l⟩ :: foots all os ls
  | _, _ => []
/-- Does each operation wait for elder ones alone? -/
def oldEdges : Nat → List Oper → Bool
  | _, [] => true
  | i, o :: l => (edges o).all (Nat.blt · i) && oldEdges (i + 1) l
/-- Is everything ahead either waited for, or apart? k: the number of the first one ahead. -/
def okOne (b : Foot) (mask : Nat) : Nat → List Foot → Bool
  | _, [] => true
  | k, a :: l => (Nat.testBit mask k || Foot.indep a b) && okOne b mask (k + 1) l
def okAll (done : List Foot) : List Foot → List Nat → Bool
  | b :: l, m :: ms => okOne b m 0 done && okAll (done ++ [b]) l ms
  | _, _ => true
def okDraw (all : List Oper) (ls : List Lab) : Bool := oldEdges 0 all && okAll [] (foots all all ls) (masks all [])
/-- A region. -/
def regC (D : Data) (call : CallK) (nt : Nat) (ops : List Oper) (draw : Bool) (tm : Tm) (m : Mem) (k : Tm → Mem → List Loc → Option R) : Option R :=
  match slotsL D ops with
  | none => none
  | some bs => opsC D call nt ops ops m.len tm (m.add bs) [] fun tm m ls =>
    bif !draw || okDraw ops ls.reverse then k tm m (wrs ls) else none
/-- What a function hands back. -/
def resC (D : Data) (tm : Tm) (m : Mem) : List ResultVar → List AV → (List AV → Option R) → Option R
  | [], acc, k => k acc.reverse
  | .tmp t :: l, acc, k => resC D tm m l (tm t :: acc) k
  | .cell a t :: l, acc, k => asP (tm a) fun id off => loadC D t m id off fun v _ => resC D tm m l (v :: acc) k
def tupC (l : List AV) (k : AV → Option R) : Option R :=
  match l with
  | [v] => k v
  | l => match flats l with
    | none => none
    | some vs => k (.tup vs)
def refine (c : Operand) (b : Bool) (tm : Tm) : Tm :=
  match c with
  | .tmp t => putT (some t) (.fv (.one (.bool b))) tm
  | _ => tm
end
def argsT (as : List AV) : Tm := nthD undefA as
/-- The parameters of a round. -/
def setP (nt : Nat) : List Nat → List AV → Tm → Option Tm
  | [], [], tm => some tm
  | p :: ps, .fv v :: vs, tm => bif Nat.blt p nt then setP nt ps vs (putT (some p) (.fv v) tm) else none
  | _, _, _ => none
/-- Code, with so many steps of depth at the most. -/
def evC : Data → Nat → {R : Type} → Nat → Code → Tm → Mem → List Loc → (Ex → Tm → Mem → List Loc → Option R) → Option R
  | _, 0, _, _, _, _, _, _, _ => none
  | D, n + 1, _, nt, c, tm, m, ws, k =>
    match c with
    | .skip => k .normal tm m ws
    | .ret => k .ret tm m ws
    | .exit id => k (.exit id) tm m ws
    | .region _ ops draw =>
      regC D (fun _ f as m k => bif Nat.beq f yId then
          match D.yo with
          | none => none
          | some rd => match setP rd.nt rd.ps.toList as rd.tm with
            | none => none
            | some tm => evC D.low n rd.nt rd.assign tm m [] fun e tm m ws =>
              match e with
              | .normal => evC D.low n rd.nt rd.body tm m ws fun e _ m ws =>
                match e with
                | .normal => k (.fv (.one (.bool true))) m ws
                | _ => none
              | _ => none
        else match look D.funs f with
        | none => none
        | some fn => match fn.body with
          | none => none
          | some c => bif Nat.ble as.length fn.ntmps then
            evC D.low n fn.ntmps c (argsT as) m [] fun e tm m ws =>
            match e with
            | .exit _ => none
            | _ => resC D.low tm m fn.results.toList [] fun l => tupC l fun v => k v m ws
            else none) nt ops.toList draw tm m fun tm m ws' => k .normal tm m (ws' ++ ws)
    | .seq a b => evC D n nt a tm m ws fun e tm m ws =>
      match e with
      | .normal => evC D n nt b tm m ws k
      | e => k e tm m ws
    | .cond c a b => match evO D tm c with
      | none => none
      | some v => asB v fun x => bif x then evC D n nt a (refine c true tm) m ws k else evC D n nt b (refine c false tm) m ws k
    | .block id a => evC D n nt a tm m ws fun e tm m ws =>
      match e with
      | .exit j => bif Nat.beq j id then k .normal tm m ws else k (.exit j) tm m ws
      | e => k e tm m ws
    | .loop a => evC D n nt a tm m ws fun e tm m ws =>
      match e with
      | .normal => evC D n nt (.loop a) tm m ws k
      | e => k e tm m ws
    | .rangeFunc f ps assign body => bif D.top then
      match evO D tm f with
      | some (.fn g [] caps) => match look D.funs g with
        | none => none
        | some fn => match fn.body with
          | none => none
          | some c => bif Nat.ble (caps.length + 1) fn.ntmps then
            evC (D.iter { nt, ps, assign, body, tm }) n fn.ntmps c (argsT (.yld :: caps.map .fv)) m [] fun e tm' m ws' =>
            match e with
            | .exit _ => none
            | _ => resC D.low tm' m fn.results.toList [] fun l => tupC l fun _ => k .normal tm m (ws' ++ ws)
            else none
      | _ => none
      else none
    | _ => none
/-- The memory ahead of a call: the listed variables, and what the slices among the arguments hold. -/
def mem0 (D : Data) (as : List Arg) : Mem where
  len := D.globs.length + as.length
  blk := fun i => bif Nat.blt i D.globs.length then
      match nthD (0, []) D.globs i with
      | (_, l) => { own := false, sz := l.length, get := ofList l }
    else match nthD (.fv (.one (.cst undef))) as (i - D.globs.length) with
      | .lst _ l => { own := false, sz := l.length, get := ofList l }
      | .fv _ => { own := false, sz := 0, get := fun _ => .cst undef }
def arg0 (D : Data) : Nat → List Arg → List AV
  | _, [] => []
  | i, .fv x :: l => .fv x :: arg0 D (i + 1) l
  | i, .lst n _ :: l => .fv (.one (.slc (D.globs.length + i) 0 n n)) :: arg0 D (i + 1) l
/-- A whole function. -/
def funC (D : Data) (fuel : Nat) (fn : Func) (as : List Arg) {R : Type} (k : AV → Option R) : Option R :=
  match fn.body with
  | none => none
  | some c => bif Nat.ble as.length fn.ntmps then
      evC D fuel fn.ntmps c (argsT (arg0 D 0 as)) (mem0 D as) [] fun e tm m _ =>
      match e with
      | .exit _ => none
      | _ => resC D tm m fn.results.toList [] fun l => tupC l k
    else none
end Go.Ev
end
