/-
  THE ABSTRACT MACHINE: values, heap, operations, and the big-step evaluator over them. Plain Lean, no program in sight.
-/
import GoSem.Dispatch
namespace Go.Am

/-- What is known of a slice's spare capacity: none (full) · unknown, never appended to (dead) · unknown, its end is the frontier of a token (opn). -/
inductive Tk where
  | full
  | dead
  | opn (t e : Nat)
  deriving Inhabited

inductive AV where
  | bool (b : Bool)
  | int (k : IntKind) (n : Int)
  | str (s : List UInt8)
  | ptr (id off : Nat)
  | nilptr
  | ep (cells : List AV) (off : Nat)
  | sl (tk : Tk) (xs : List AV)
  | nilsl
  | arr (id off len cap : Nat)
  | map (id : Nat)
  | nilmap
  | fn (f : FuncId) (first captured : List AV)
  | yield (l : Nat)
  | nilfn
  | iface (t : TypeId) (v : AV)
  | nilif
  | agg (cells : List AV)
  | tup (vs : List AV)
  | unk
  deriving Inhabited

def AV.cells : AV → List AV
  | .agg cs => cs
  | v => [v]

/-- May the value stand in one cell? -/
def AV.isCell : AV → Bool
  | .agg _ | .tup _ | .unk => false
  | _ => true

/-- Is anything known of the value? -/
def AV.known : AV → Bool
  | .unk => false
  | _ => true

def undefA : AV := .tup []

/-- Answers: a value, or why there is none. -/
inductive R (α : Type) where
  | ok (a : α)
  | no (why : String)
  deriving Inhabited

def R.bind {α β : Type} (x : R α) (f : α → R β) : R β :=
  match x with
  | .ok a => f a
  | .no w => .no w

def R.ofOpt {α : Type} (w : String) : Option α → R α
  | some a => .ok a
  | none => .no w

inductive Opd where
  | t (n : Nat)
  | c (v : AV)
  deriving Inhabited

/-- Kinds of cells that are compared by '=='; of the last ones one is nil. -/
inductive SK where
  | bool | int | str | ptr | sl | map | fn | iface
  deriving Inhabited
inductive EqK where
  | simple (k : SK)
  | cells (ks : List SK)     -- a struct or an array of simple cells
  deriving Inhabited

/-- What len is asked of. -/
inductive LK where
  | str | sl | map
  deriving Inhabited

/-- Operations of one operand that are met often. -/
inductive U1 where
  | load (n : Option Nat)
  | nilchk
  | faddr (off : Nat)
  | len (k : LK)
  | extract (i : Nat)
  | fld (off : Nat) (n : Option Nat)
  deriving Inhabited

/-- Other operations of one operand. -/
inductive U2 where
  | box
  | un (op : UnOp)
  | cvInt (k : IntKind)
  | cvStr
  | cvBytes
  | cvText
  | mkIf (t : TypeId)
  | range
  | next
  | tassert (t : TypeId) (zero : AV)
  | cap
  | panic
  deriving Inhabited

/-- Operations of two operands. -/
inductive B2 where
  | bin (op : BinOp)
  | eq (neg : Bool) (k : EqK)
  | store (n : Nat)
  | iaddr (size : Nat)
  | iaddrArr (len size : Nat)
  | idxStr
  | idxArr (len size : Nat) (n : Option Nat)
  | lookup (kn : EqK) (zero : AV) (ok : Bool)
  | mkSlice (zero : List AV)
  | append (size : Nat)
  deriving Inhabited

/-- The others. -/
inductive O3 where
  | pick (c a b : Opd)
  | alloc (zero : List AV)
  | build (zero : List AV) (parts : List (Nat × Nat × Opd))
  | bslice (size : Nat) (elems : List Opd)
  | mkFn (f : FuncId) (first captured : List Opd)
  | mkMap
  | slc (isStr : Bool) (size : Nat) (x : Opd) (lo hi mx : Option Opd)
  | mapUpd (kn : EqK) (m k v : Opd)
  | mx (isMax : Bool) (xs : List Opd)
  | defer (f : Opd) (args : List Opd)
  | recover
  | none (why : String)
  deriving Inhabited

inductive AOp where
  | mov (x : Opd)
  | u1 (u : U1) (x : Opd)
  | b2 (b : B2) (x y : Opd)
  | call (f : Opd) (args : List Opd)
  | u2 (u : U2) (x : Opd)
  | o3 (o : O3)
  deriving Inhabited

structure AOper where
  dst : Option Nat
  op : AOp
  guard : Option (Nat × Bool)
  deriving Inhabited

/-- How an operation of a region that draws its order stands to the heap: it does not look (soft) · it looks (and at which of the region's heaps it may: win) · it turns the heap or calls (hard; is what follows it behind it in every order?) · it makes a new variable (pre). -/
inductive DK where
  | soft
  | look (win : List Nat)
  | hard (last : Bool)
  | pre (zero : List AV) (win : List Nat)
  deriving Inhabited
structure DOper where
  o : AOper
  k : DK
  deriving Inhabited

inductive AC where
  | skip
  | reg (ops : List AOper) (keep : Option (List Nat))
  | dreg (ops : List DOper) (keep : Option (List Nat))
  | seq (a b : AC)
  | cond (c : Opd) (thn els : AC)
  | block (id : Nat) (body : AC)
  | loop (body : AC)
  | rf (f : Opd) (params : List Nat) (assign body : AC)
  | exit (id : Nat)
  | scope (body : AC)
  | ret
  | none (why : String)
  deriving Inhabited

inductive ARes where
  | tmp (t : Nat)
  | cell (a : Nat) (n : Option Nat)
  deriving Inhabited

structure AFn where
  ntmps : Nat
  results : List ARes
  body : AC
  deriving Inhabited

inductive Jump where
  | ret
  | exit (id : Nat)
  deriving Inhabited

inductive ADef where
  | call (f : FuncId) (args : List AV)
  | collected (l : Nat)
  deriving Inhabited

structure ALoop where
  state : LoopState
  pending : Option Jump
  fn : FuncId
  tmps : List (Nat × AV)
  params : List Nat
  assign : AC
  body : AC
  defers : Nat
  deriving Inhabited

inductive AO where
  | cells (c : List AV)
  | map (es : List (AV × AV × Nat)) (clock : Nat)
  | tok (n : Nat)
  | siter (s : List UInt8) (pos : Nat)
  | loop (l : ALoop)
  | deferred (ds : Option (List ADef))
  deriving Inhabited

/-! ### The heap: a tree over binary numbers -/
inductive T where
  | leaf
  | node (v : Option AO) (l r : T)
  deriving Inhabited

noncomputable def T.get (t : T) : Nat → Option AO :=
  T.rec (fun _ => none) (fun v _ _ ihl ihr n => Nat.rec v (fun n _ => Nat.rec (ihl (n / 2)) (fun _ _ => ihr (n / 2)) (n % 2)) n) t

noncomputable def T.put (o : Option AO) (ih : T → Nat → T) (v : Option AO) (l r : T) (n : Nat) : T :=
  Nat.rec (.node o l r) (fun n _ => Nat.rec (.node v (ih l (n / 2)) r) (fun _ _ => .node v l (ih r (n / 2))) (n % 2)) n
noncomputable def T.setAux (o : Option AO) (fuel : Nat) : T → Nat → T :=
  Nat.rec (fun t _ => t) (fun _ ih t n => match t with
    | .leaf => T.put o ih none .leaf .leaf n
    | .node v l r => T.put o ih v l r n) fuel

structure Heap where
  next : Nat
  tree : T
  deriving Inhabited

noncomputable def Heap.get (h : Heap) (i : Nat) : Option AO := match Nat.blt i h.next with
  | true => h.tree.get i
  | false => none
noncomputable def Heap.set (h : Heap) (i : Nat) (o : AO) : Heap := { h with tree := T.setAux (some o) (i + 1) h.tree i }
noncomputable def Heap.push (h : Heap) (o : AO) : Heap := ⟨h.next + 1, T.setAux (some o) (h.next + 1) h.tree h.next⟩

noncomputable def Heap.empty : Heap := ⟨0, .leaf⟩

/-! ### Temporaries -/
abbrev Tmps := List (Nat × AV)
noncomputable def tget (ts : Tmps) (t : Nat) : AV :=
  List.rec .unk (fun p _ ih => Bool.rec ih p.2 (Nat.beq p.1 t)) ts
noncomputable def tput (d : Option Nat) (v : AV) (ts : Tmps) : Tmps :=
  match d with
  | some d => (d, v) :: ts
  | none => ts
/-- What is kept of the temporaries; nothing is said of the others. -/
noncomputable def keepR (ts : Tmps) (keep : List Nat) : Tmps := List.rec [] (fun t _ ih => (t, tget ts t) :: ih) keep
noncomputable def tkeep (keep : Option (List Nat)) (ts : Tmps) : Tmps := match keep with
  | none => ts
  | some k => keepR ts k
noncomputable def ev (ts : Tmps) : Opd → AV
  | .t n => tget ts n
  | .c v => v

/-! ### Numbers -/
noncomputable def ki : IntKind → Nat
  | .i8 => 0 | .i16 => 1 | .i32 => 2 | .i64 => 3 | .u8 => 4 | .u16 => 5 | .u32 => 6 | .u64 => 7

/-- Comparisons of integers that the kernel reckons quickly. -/
noncomputable def ile : Int → Int → Bool
  | .ofNat a, .ofNat b => Nat.ble a b
  | .ofNat _, .negSucc _ => false
  | .negSucc _, .ofNat _ => true
  | .negSucc a, .negSucc b => Nat.ble b a
noncomputable def ieq : Int → Int → Bool
  | .ofNat a, .ofNat b => Nat.beq a b
  | .negSucc a, .negSucc b => Nat.beq a b
  | _, _ => false
noncomputable def ilt (a b : Int) : Bool := match ile b a with | true => false | false => true
noncomputable def beqB : Bool → Bool → Bool
  | true, b => b
  | false, b => match b with | true => false | false => true
noncomputable def bnot : Bool → Bool
  | true => false
  | false => true

/-- 'IntKind.wrap', quick where nothing wraps. -/
noncomputable def wr (k : IntKind) (n : Int) : Int :=
  match k with
  | .i64 => match n with
    | .ofNat m => match Nat.ble m 9223372036854775807 with
      | true => .ofNat m
      | false => IntKind.wrap .i64 (.ofNat m)
    | .negSucc m => match Nat.ble m 9223372036854775807 with
      | true => .negSucc m
      | false => IntKind.wrap .i64 (.negSucc m)
  | .u8 => match n with
    | .ofNat m => match Nat.ble m 255 with
      | true => .ofNat m
      | false => IntKind.wrap .u8 (.ofNat m)
    | .negSucc m => IntKind.wrap .u8 (.negSucc m)
  | k => IntKind.wrap k n

/-- A list's element, by its number. -/
noncomputable def nth {α : Type} (l : List α) : Nat → Option α :=
  List.rec (fun _ => none) (fun a _ ih n => Nat.rec (some a) (fun n _ => ih n) n) l

noncomputable def bytesEq : List UInt8 → List UInt8 → Bool
  | [], [] => true
  | a :: x, b :: y => match Nat.beq a.toNat b.toNat with
    | true => bytesEq x y
    | false => false
  | _, _ => false

noncomputable def bytesLt : List UInt8 → List UInt8 → Bool
  | _, [] => false
  | [], _ :: _ => true
  | a :: x, b :: y => match Nat.blt a.toNat b.toNat with
    | true => true
    | false => match Nat.beq a.toNat b.toNat with
      | true => bytesLt x y
      | false => false

/-- Two values are equal by '==': of simple kinds, or one of them nil. -/
noncomputable def skEq (k : SK) (x y : AV) : R Bool := match k with
  | .int => match x, y with
    | .int k a, .int k' b => match Nat.beq (ki k) (ki k') with
      | true => .ok (ieq a b)
      | false => .no "eq: kinds"
    | _, _ => .no "eq: int"
  | .str => match x, y with
    | .str a, .str b => .ok (bytesEq a b)
    | _, _ => .no "eq: string"
  | .bool => match x, y with
    | .bool a, .bool b => .ok (beqB a b)
    | _, _ => .no "eq: bool"
  | .ptr => match x, y with
    | .nilptr, .nilptr => .ok true
    | .nilptr, .ptr _ _ => .ok false
    | .ptr _ _, .nilptr => .ok false
    | .nilptr, .ep _ _ => .ok false
    | .ep _ _, .nilptr => .ok false
    | _, _ => .no "eq: pointer"
  | .sl => match x, y with
    | .nilsl, .nilsl => .ok true
    | .nilsl, .sl _ _ => .ok false
    | .sl _ _, .nilsl => .ok false
    | .nilsl, .arr _ _ _ _ => .ok false
    | .arr _ _ _ _, .nilsl => .ok false
    | _, _ => .no "eq: slice"
  | .map => match x, y with
    | .nilmap, .nilmap => .ok true
    | .nilmap, .map _ => .ok false
    | .map _, .nilmap => .ok false
    | _, _ => .no "eq: map"
  | .fn => match x, y with
    | .nilfn, .nilfn => .ok true
    | .nilfn, .fn _ _ _ => .ok false
    | .fn _ _ _, .nilfn => .ok false
    | _, _ => .no "eq: func"
  | .iface => match x, y with
    | .nilif, .nilif => .ok true
    | .nilif, .iface _ _ => .ok false
    | .iface _ _, .nilif => .ok false
    | _, _ => .no "eq: interface"

noncomputable def cellsEq : List SK → List AV → List AV → R Bool
  | [], [], [] => .ok true
  | k :: ks, a :: x, b :: y => (skEq k a b).bind fun e => match e with
    | true => cellsEq ks x y
    | false => .ok false
  | _, _, _ => .no "eq: sizes"

noncomputable def aggEq (ks : List SK) (a b : AV) : R Bool := match a, b with
  | .agg x, .agg y => match Nat.beq x.length ks.length && Nat.beq y.length ks.length with
    | true => cellsEq ks x y
    | false => .no "eq: size"
  | _, _ => .no "eq: agg expected"

noncomputable def eqA (k : EqK) (a b : AV) : R Bool := match k with
  | .simple k => skEq k a b
  | .cells ks => aggEq ks a b

noncomputable def findKey (kn : EqK) (k : AV) : List (AV × AV × Nat) → Nat → R (Option (Nat × AV))
  | [], _ => .ok none
  | (a, v, _) :: r, i => (eqA kn k a).bind fun e => match e with
    | true => .ok (some (i, v))
    | false => findKey kn k r (i + 1)

noncomputable def setEntry (k v : AV) : Nat → List (AV × AV × Nat) → List (AV × AV × Nat)
  | _, [] => []
  | 0, (_, _, b) :: r => (k, v, b) :: r
  | i + 1, e :: r => e :: setEntry k v i r

noncomputable def intArith (op : BinOp) (k : IntKind) (a b : Int) : R AV :=
  match op with
  | .add => .ok (.int k (wr k (a + b)))
  | .sub => .ok (.int k (wr k (a - b)))
  | .mul => .ok (.int k (wr k (a * b)))
  | .quo => match ieq b 0 with
    | true => .no "division by zero"
    | false => .ok (.int k (wr k (a.tdiv b)))
  | .rem => match ieq b 0 with
    | true => .no "division by zero"
    | false => .ok (.int k (a.tmod b))
  | .and => .ok (.int k (k.wrap (BitVec.ofInt k.bits a &&& BitVec.ofInt k.bits b).toNat))
  | .or => .ok (.int k (k.wrap (BitVec.ofInt k.bits a ||| BitVec.ofInt k.bits b).toNat))
  | .xor => .ok (.int k (k.wrap (BitVec.ofInt k.bits a ^^^ BitVec.ofInt k.bits b).toNat))
  | .andNot => .ok (.int k (k.wrap (BitVec.ofInt k.bits a &&& ~~~BitVec.ofInt k.bits b).toNat))
  | .eql => .ok (.bool (ieq a b))
  | .neq => .ok (.bool (bnot (ieq a b)))
  | .lss => .ok (.bool (ilt a b))
  | .leq => .ok (.bool (ile a b))
  | .gtr => .ok (.bool (ilt b a))
  | .geq => .ok (.bool (ile b a))
  | _ => .no "intArith"

noncomputable def strArith (op : BinOp) (a b : List UInt8) : R AV :=
  match op with
  | .add => match Nat.ble (a.length + b.length) 9223372036854775807 with
    | true => .ok (.str (a ++ b))
    | false => .no "string too long"
  | .eql => .ok (.bool (bytesEq a b))
  | .neq => .ok (.bool (bnot (bytesEq a b)))
  | .lss => .ok (.bool (bytesLt a b))
  | .leq => .ok (.bool (bnot (bytesLt b a)))
  | .gtr => .ok (.bool (bytesLt b a))
  | .geq => .ok (.bool (bnot (bytesLt a b)))
  | _ => .no "strArith"

noncomputable def binA (op : BinOp) (x y : AV) : R AV :=
  match x, y with
  | .int k a, .int k' b =>
    match op with
    | .shl => match ile 0 b with
      | true => .ok (.int k (k.wrap (a * 2 ^ (min b.toNat k.bits))))
      | false => .no "shift"
    | .shr => match ile 0 b with
      | true => .ok (.int k (a.fdiv (2 ^ (min b.toNat k.bits))))
      | false => .no "shift"
    | op => match Nat.beq (ki k) (ki k') with
      | true => intArith op k a b
      | false => .no "bin: kinds"
  | .str a, .str b => strArith op a b
  | _, _ => .no "bin: operands"

/-! ### Memory -/
noncomputable def takeN : Nat → List AV → Option (List AV)
  | 0, _ => some []
  | _ + 1, [] => none
  | n + 1, x :: r => match takeN n r with
    | some l => some (x :: l)
    | none => none

noncomputable def readCells (n : Option Nat) (cs : List AV) (off : Nat) : R AV :=
  match n with
  | none => match nth cs off with
    | some v => .ok v
    | none => .no "load: off"
  | some n => match takeN n (cs.drop off) with
    | some l => .ok (.agg l)
    | none => .no "load: n"

noncomputable def loadA (h : Heap) (n : Option Nat) (x : AV) : R AV :=
  match x with
  | .ptr id off => match h.get id with
    | some (.cells cs) => readCells n cs off
    | _ => .no "load: no cells"
  | .ep cs off => readCells n cs off
  | _ => .no "load: pointer"

/-- 'vs' laid over 'cs' from 'off' on; the cells must be there. -/
noncomputable def overlay : Nat → List AV → List AV → Option (List AV)
  | 0, [], cs => some cs
  | 0, v :: vs, _ :: cs => match overlay 0 vs cs with
    | some l => some (v :: l)
    | none => none
  | 0, _ :: _, [] => none
  | _ + 1, _, [] => none
  | off + 1, vs, c :: cs => match overlay off vs cs with
    | some l => some (c :: l)
    | none => none

noncomputable def storeA (h : Heap) (n : Nat) (x v : AV) : R Heap :=
  match x with
  | .ptr id off => match h.get id with
    | some (.cells cs) =>
      if Nat.beq v.cells.length n && v.cells.all AV.isCell then
        match overlay off v.cells cs with
        | some cs' => .ok (h.set id (.cells cs'))
        | none => .no "store: off"
      else .no "store: value"
    | _ => .no "store: no cells"
  | _ => .no "store: pointer"

noncomputable def fillA (zero : List AV) (ts : Tmps) : List (Nat × Nat × Opd) → R (List AV)
  | [] => .ok zero
  | (off, size, x) :: rest =>
    match Nat.beq (ev ts x).cells.length size && (ev ts x).known with
    | true => match overlay off (ev ts x).cells zero with
      | some z => fillA z ts rest
      | none => .no "build: off"
    | false => .no "build: size"

noncomputable def elemsA (size : Nat) (ts : Tmps) : List Opd → R (List AV)
  | [] => .ok []
  | x :: r => match Nat.beq (ev ts x).cells.length size && (ev ts x).cells.all AV.isCell with
    | true => (elemsA size ts r).bind fun l => .ok (ev ts x :: l)
    | false => .no "bslice: size"

/-- The elements of a row of cells of an array, for reading. -/
noncomputable def asInt : AV → R Int
  | .int _ n => .ok n
  | _ => .no "int expected"

noncomputable def lenA (h : Heap) (k : LK) (x : AV) : R Nat := match k with
  | .str => match x with
    | .str s => .ok s.length
    | _ => .no "len: string"
  | .sl => match x with
    | .sl _ xs => .ok xs.length
    | .nilsl => .ok 0
    | .arr _ _ n _ => .ok n
    | _ => .no "len: slice"
  | .map => match x with
    | .nilmap => .ok 0
    | .map id => match h.get id with
      | some (.map es _) => .ok es.length
      | _ => .no "len: map"
    | _ => .no "len: map"

noncomputable def bound (x : Option AV) (most dflt : Nat) : R Nat :=
  match x with
  | none => .ok dflt
  | some v => match v with
    | .int _ i => match ile 0 i && ile i most with
      | true => .ok i.toNat
      | false => .no "slice bound"
    | _ => .no "slice bound: int"

noncomputable def hiOf (hi mx : Option AV) (m dflt : Nat) : R Nat := match mx, hi with
  | some _, none => .no "slice: max without high"
  | _, _ => bound hi m dflt
noncomputable def slStr (s : List UInt8) (lo hi : Option AV) : R AV :=
  (bound hi s.length s.length).bind fun h => (bound lo h 0).bind fun l => .ok (.str ((s.take h).drop l))
noncomputable def slTk (tk : Tk) (mx : Option AV) (m h l n : Nat) : Tk := match mx with
  | some _ => match Nat.beq h m with
    | true => .full
    | false => .dead
  | none => match Nat.beq h n with
    | true => match Nat.blt l h with
      | true => tk
      | false => match Nat.beq l 0 with
        | true => tk
        | false => .dead
    | false => .dead
noncomputable def headSize (n : Nat) : List AV → Bool
  | [] => true
  | x :: _ => Nat.beq x.cells.length n

noncomputable def slSl (size : Nat) (tk : Tk) (xs : List AV) (lo hi mx : Option AV) : R AV := match headSize size xs with
  | false => .no "slice: size"
  | true => (bound mx xs.length xs.length).bind fun m => (hiOf hi mx m xs.length).bind fun h => (bound lo h 0).bind fun l =>
    .ok (.sl (slTk tk mx m h l xs.length) ((xs.take h).drop l))
noncomputable def slNil (lo hi mx : Option AV) : R AV :=
  (bound mx 0 0).bind fun m => (hiOf hi mx m 0).bind fun h => (bound lo h 0).bind fun _ => .ok .nilsl
noncomputable def slArr (size id off len cap : Nat) (lo hi mx : Option AV) : R AV :=
  (bound mx cap cap).bind fun m => (hiOf hi mx m len).bind fun h => (bound lo h 0).bind fun l =>
    match Nat.beq m l with
    | true => .ok (.arr id off (h - l) (m - l))
    | false => .ok (.arr id (off + l * size) (h - l) (m - l))
noncomputable def sliceA (isStr : Bool) (size : Nat) (x : AV) (lo hi mx : Option AV) : R AV :=
  match x with
  | .str s => match isStr with
    | true => slStr s lo hi
    | false => .no "slice: operand"
  | .sl tk xs => match isStr with
    | true => .no "slice: operand"
    | false => slSl size tk xs lo hi mx
  | .nilsl => match isStr with
    | true => .no "slice: operand"
    | false => slNil lo hi mx
  | .arr id off len cap => match isStr with
    | true => .no "slice: operand"
    | false => slArr size id off len cap lo hi mx
  | _ => .no "slice: operand"

noncomputable def iaddrSl (size : Nat) (xs : List AV) (i : Int) : R AV := match ile 0 i with
  | true => match nth xs i.toNat with
    | some e => match Nat.beq e.cells.length size with
      | true => .ok (.ep e.cells 0)
      | false => .no "index: size"
    | none => .no "index"
  | false => .no "index"
noncomputable def iaddrA (size : Nat) (x i : AV) : R AV :=
  match x with
  | .sl _ xs => match i with
    | .int _ i => iaddrSl size xs i
    | _ => .no "index: operands"
  | .arr id off len _ => match i with
    | .int _ i => match ile 0 i && ilt i len with
      | true => .ok (.ptr id (off + i.toNat * size))
      | false => .no "index"
    | _ => .no "index: operands"
  | _ => .no "index: operands"

noncomputable def addOff (off : Nat) : AV → R AV
  | .ptr id o => .ok (.ptr id (o + off))
  | .ep cs o => .ok (.ep cs (o + off))
  | _ => .no "fieldAddr"

/-- The elements of a slice, as they are appended or copied. -/
noncomputable def elemsOf (h : Heap) (size : Nat) : AV → R (List AV)
  | .sl _ xs => .ok xs
  | .nilsl => .ok []
  | .arr id off len _ => match Nat.beq size 1 with
    | true => match h.get id with
      | some (.cells cs) => match takeN len (cs.drop off) with
        | some l => match l.all AV.isCell with
          | true => .ok l
          | false => .no "elems: cell"
        | none => .no "elems"
      | _ => .no "elems: no cells"
    | false => .no "elems: wide"
  | _ => .no "elems: slice expected"

noncomputable def allSize (n : Nat) : List AV → Bool
  | [] => true
  | x :: r => match Nat.beq x.cells.length n with
    | true => allSize n r
    | false => false

noncomputable def appendMax : Nat := 1073741824

noncomputable def appZero (h : Heap) : AV → R (AV × Heap)
  | .sl tk xs => .ok (.sl tk xs, h)
  | .nilsl => .ok (.nilsl, h)
  | .arr a b c d => .ok (.arr a b c d, h)
  | _ => .no "append: slice"
noncomputable def appNew (h : Heap) (size : Nat) (xs ys : List AV) : R (AV × Heap) :=
  match Nat.ble ((xs.length + ys.length) * size) appendMax && headSize size xs with
  | true => .ok (.sl (.opn h.next (xs.length + ys.length)) (xs ++ ys), h.push (.tok (xs.length + ys.length)))
  | false => .no "append: long"
noncomputable def headSize1 (n : Nat) : List AV → Bool
  | [] => false
  | x :: _ => Nat.beq x.cells.length n
noncomputable def appOpn (h : Heap) (size t e : Nat) (xs ys : List AV) : R (AV × Heap) := match h.get t with
  | some (.tok n) => match Nat.beq n e && Nat.beq e xs.length && Nat.ble ((e + ys.length) * size) appendMax && headSize1 size xs with
    | true => .ok (.sl (.opn t (e + ys.length)) (xs ++ ys), h.set t (.tok (e + ys.length)))
    | false => .no "append: frontier"
  | _ => .no "append: token"
noncomputable def appSome (h : Heap) (size : Nat) (ys : List AV) : AV → R (AV × Heap)
  | .nilsl => appNew h size [] ys
  | .sl tk xs => match tk with
    | .full => appNew h size xs ys
    | .opn t e => appOpn h size t e xs ys
    | .dead => .no "append: dead"
  | _ => .no "append: slice"
noncomputable def appendA (h : Heap) (size : Nat) (s x : AV) : R (AV × Heap) :=
  (elemsOf h size x).bind fun ys =>
    match ys with
    | [] => appZero h s
    | y :: r => match Nat.ble 1 size && allSize size (y :: r) with
      | false => .no "append: size"
      | true => appSome h size (y :: r) s

noncomputable def maxA (isMax : Bool) : AV → List AV → R AV
  | a, [] => .ok a
  | .int k a, .int _ b :: r => maxA isMax (.int k (if isMax then (if b > a then b else a) else (if b < a then b else a))) r
  | _, _ => .no "max"

noncomputable def toStr : List AV → R (List UInt8)
  | [] => .ok []
  | x :: r => match x with
    | .int .u8 n => match ile 0 n && ilt n 256 with
      | true => (toStr r).bind fun l => .ok (UInt8.ofNat n.toNat :: l)
      | false => .no "text: byte"
    | _ => .no "text: byte"

/-- What an operation comes to. -/
inductive ONext where
  | val (v : AV) (h : Heap)
  | skip (h : Heap)
  | enter (f : FuncId) (args : List AV)
  | round (l : Nat) (args : List AV)
  | defer (d : ADef)
  | recover
  | panic (v : AV)

noncomputable def vl (h : Heap) (x : R AV) : R ONext := x.bind fun v => .ok (.val v h)

noncomputable def oPick (h : Heap) (c a b : AV) : R ONext := match c with
  | .bool true => .ok (.val a h)
  | .bool false => .ok (.val b h)
  | _ => .no "pick"
noncomputable def oNilchk (h : Heap) (x : AV) : R ONext := match x with
  | .ptr id off => .ok (.val (.ptr id off) h)
  | .ep c off => .ok (.val (.ep c off) h)
  | .fn f a b => .ok (.val (.fn f a b) h)
  | .yield l => .ok (.val (.yield l) h)
  | _ => .no "nilCheck"
noncomputable def oEq (h : Heap) (neg : Bool) (k : EqK) (x y : AV) : R ONext := (eqA k x y).bind fun b => .ok (.val (.bool (match neg with | true => bnot b | false => b)) h)
noncomputable def oUn (h : Heap) (op : UnOp) (x : AV) : R ONext := match op, x with
  | .not, .bool b => .ok (.val (.bool (bnot b)) h)
  | .neg, .int k n => .ok (.val (.int k (wr k (0 - n))) h)
  | .xor, .int k n => .ok (.val (.int k (k.wrap (BitVec.ofInt k.bits (if k.signed then -1 else k.max) ^^^ BitVec.ofInt k.bits n).toNat)) h)
  | _, _ => .no "unary"
noncomputable def oCvInt (h : Heap) (k : IntKind) (x : AV) : R ONext := match x with
  | .int _ n => .ok (.val (.int k (wr k n)) h)
  | _ => .no "convert: int"
noncomputable def oCvStr (h : Heap) (x : AV) : R ONext := match x with
  | .str s => .ok (.val (.str s) h)
  | _ => .no "convert: string"
noncomputable def oCvBytes (h : Heap) (x : AV) : R ONext := match x with
  | .str s => .ok (.val (.sl .dead (s.map fun b => .int .u8 b.toNat)) h)
  | _ => .no "convert: string"
noncomputable def oCvText (h : Heap) (x : AV) : R ONext := match x with
  | .sl _ xs => (toStr xs).bind fun s => .ok (.val (.str s) h)
  | .nilsl => .ok (.val (.str []) h)
  | _ => .no "convert: bytes"
noncomputable def oMkSlice (h : Heap) (zero : List AV) (l c : AV) : R ONext := match l, c with
  | .int _ l, .int _ c => match ile 0 l && ile l c && ile c 1048576 && ile (c * zero.length) 1048576 with
    | true => .ok (.val (.arr h.next 0 l.toNat c.toNat) (h.push (.cells (List.replicate c.toNat zero).flatten)))
    | false => .no "make: size"
  | _, _ => .no "make"
noncomputable def oFld (h : Heap) (off : Nat) (n : Option Nat) (x : AV) : R ONext := match x with
  | .agg cs => vl h (readCells n cs off)
  | _ => .no "field"
noncomputable def oIaddrArr (h : Heap) (len size : Nat) (x i : AV) : R ONext := match i with
  | .int _ i => match ile 0 i && ilt i len with
    | true => vl h (addOff (i.toNat * size) x)
    | false => .no "index"
  | _ => .no "index: int"
noncomputable def oIdxStr (h : Heap) (x i : AV) : R ONext := match x, i with
  | .str s, .int _ i => match ile 0 i with
    | true => match nth s i.toNat with
      | some b => .ok (.val (.int .u8 b.toNat) h)
      | none => .no "index"
    | false => .no "index"
  | _, _ => .no "index: string"
noncomputable def oIdxArr (h : Heap) (len size : Nat) (n : Option Nat) (x i : AV) : R ONext := match x, i with
  | .agg cs, .int _ i => match ile 0 i && ilt i len with
    | true => vl h (readCells n cs (i.toNat * size))
    | false => .no "index"
  | _, _ => .no "index: array"
noncomputable def entriesA (h : Heap) (m : AV) : R (List (AV × AV × Nat)) := match m with
  | .nilmap => .ok []
  | .map id => match h.get id with
    | some (.map es _) => .ok es
    | _ => .no "lookup: map"
  | _ => .no "lookup"
noncomputable def oLookup (h : Heap) (kn : EqK) (zero : AV) (ok : Bool) (m k : AV) : R ONext :=
  (eqA kn k k).bind fun _ => (entriesA h m).bind fun es => (findKey kn k es 0).bind fun r => match r with
    | some (_, v) => .ok (.val (match ok with | true => .tup [v, .bool true] | false => v) h)
    | none => .ok (.val (match ok with | true => .tup [zero, .bool false] | false => zero) h)
noncomputable def oMapUpd (h : Heap) (kn : EqK) (m k v : AV) : R ONext := match m with
  | .map id => match h.get id with
    | some (.map es c) => (eqA kn k k).bind fun _ => (findKey kn k es 0).bind fun r => match r with
      | some (i, _) => .ok (.skip (h.set id (.map (setEntry k v i es) c)))
      | none => .ok (.skip (h.set id (.map (es ++ [(k, v, c)]) (c + 1))))
    | _ => .no "mapUpdate: map"
  | _ => .no "mapUpdate"
noncomputable def oRange (h : Heap) (x : AV) : R ONext := match x with
  | .str s => .ok (.val (.ptr h.next 0) (h.push (.siter s 0)))
  | _ => .no "range"
noncomputable def oNextAt (h : Heap) (id : Nat) (s : List UInt8) (pos : Nat) : R ONext := match nth s pos with
  | some b => match Nat.blt b.toNat 128 with
    | true => .ok (.val (.tup [.bool true, .int .i64 pos, .int .i32 b.toNat]) (h.set id (.siter s (pos + 1))))
    | false => .no "next: not ASCII"
  | none => .ok (.val (.tup [.bool false]) h)
noncomputable def oNext (h : Heap) (x : AV) : R ONext := match x with
  | .ptr id 0 => match h.get id with
    | some (.siter s pos) => oNextAt h id s pos
    | _ => .no "next: iterator"
  | _ => .no "next"
noncomputable def oTassert (h : Heap) (t : TypeId) (zero x : AV) : R ONext := match x with
  | .iface t' v => .ok (.val (match Nat.beq t t' with | true => .tup [v, .bool true] | false => .tup [zero, .bool false]) h)
  | .nilif => .ok (.val (.tup [zero, .bool false]) h)
  | _ => .no "typeAssert"
noncomputable def oExtract (h : Heap) (x : AV) (i : Nat) : R ONext := match x with
  | .tup vs => match nth vs i with
    | some v => .ok (.val v h)
    | none => .no "extract"
  | _ => .no "extract"
noncomputable def oCap (h : Heap) (x : AV) : R ONext := match x with
  | .sl .full xs => .ok (.val (.int .i64 xs.length) h)
  | .nilsl => .ok (.val (.int .i64 0) h)
  | .arr _ _ _ c => .ok (.val (.int .i64 c) h)
  | _ => .no "cap"
noncomputable def oMx (h : Heap) (isMax : Bool) (xs : List AV) : R ONext := match xs with
  | [] => .no "max"
  | x :: r => vl h (maxA isMax x r)
noncomputable def oCall (f : AV) (args : List AV) : R ONext := match f with
  | .fn g first captured => .ok (.enter g (first ++ args ++ captured))
  | .yield l => .ok (.round l args)
  | _ => .no "call"
noncomputable def oDefer (f : AV) (args : List AV) : R ONext := match f with
  | .fn g first captured => .ok (.defer (.call g (first ++ args ++ captured)))
  | _ => .no "defer"
noncomputable def oPanic (x : AV) : R ONext := match x with
  | .iface t v => .ok (.panic (.iface t v))
  | _ => .no "panic"
noncomputable def oLen (h : Heap) (k : LK) (x : AV) : R ONext := (lenA h k x).bind fun n => .ok (.val (.int .i64 n) h)
noncomputable def oBuild (h : Heap) (ts : Tmps) (zero : List AV) (parts : List (Nat × Nat × Opd)) : R ONext := (fillA zero ts parts).bind fun c => .ok (.val (.agg c) h)
noncomputable def oBslice (h : Heap) (ts : Tmps) (size : Nat) (elems : List Opd) : R ONext := (elemsA size ts elems).bind fun l => .ok (.val (.sl .full l) h)
noncomputable def oStore (h : Heap) (n : Nat) (x v : AV) : R ONext := (storeA h n x v).bind fun h' => .ok (.skip h')
noncomputable def oAppend (h : Heap) (size : Nat) (s x : AV) : R ONext := (appendA h size s x).bind fun (v, h') => .ok (.val v h')
noncomputable def evO (ts : Tmps) : Option Opd → Option AV
  | none => none
  | some x => some (ev ts x)
noncomputable def evL (ts : Tmps) (l : List Opd) : List AV := List.rec [] (fun x _ ih => ev ts x :: ih) l

noncomputable def opU1 (h : Heap) (x : AV) : U1 → R ONext
  | .load n => vl h (loadA h n x)
  | .nilchk => oNilchk h x
  | .faddr off => vl h (addOff off x)
  | .len k => oLen h k x
  | .extract i => oExtract h x i
  | .fld off n => oFld h off n x
noncomputable def oBox (h : Heap) (x : AV) : R ONext := match x.known with
  | true => .ok (.val (.ptr h.next 0) (h.push (.cells x.cells)))
  | false => .no "box"
noncomputable def opU2 (h : Heap) (x : AV) : U2 → R ONext
  | .box => oBox h x
  | .un op => oUn h op x
  | .cvInt k => oCvInt h k x
  | .cvStr => oCvStr h x
  | .cvBytes => oCvBytes h x
  | .cvText => oCvText h x
  | .mkIf t => .ok (.val (.iface t x) h)
  | .range => oRange h x
  | .next => oNext h x
  | .tassert t zero => oTassert h t zero x
  | .cap => oCap h x
  | .panic => oPanic x
noncomputable def opB2 (h : Heap) (x y : AV) : B2 → R ONext
  | .bin op => vl h (binA op x y)
  | .eq neg k => oEq h neg k x y
  | .store n => oStore h n x y
  | .iaddr size => vl h (iaddrA size x y)
  | .iaddrArr len size => oIaddrArr h len size x y
  | .idxStr => oIdxStr h x y
  | .idxArr len size n => oIdxArr h len size n x y
  | .lookup kn zero ok => oLookup h kn zero ok x y
  | .mkSlice zero => oMkSlice h zero x y
  | .append size => oAppend h size x y
noncomputable def opO3 (ts : Tmps) (h : Heap) : O3 → R ONext
  | .pick c a b => oPick h (ev ts c) (ev ts a) (ev ts b)
  | .alloc zero => .ok (.val (.ptr h.next 0) (h.push (.cells zero)))
  | .build zero parts => oBuild h ts zero parts
  | .bslice size elems => oBslice h ts size elems
  | .mkFn f first captured => .ok (.val (.fn f (evL ts first) (evL ts captured)) h)
  | .mkMap => .ok (.val (.map h.next) (h.push (.map [] 0)))
  | .slc isStr size x lo hi mx => vl h (sliceA isStr size (ev ts x) (evO ts lo) (evO ts hi) (evO ts mx))
  | .mapUpd kn m k v => oMapUpd h kn (ev ts m) (ev ts k) (ev ts v)
  | .mx isMax xs => oMx h isMax (evL ts xs)
  | .defer f args => oDefer (ev ts f) (evL ts args)
  | .recover => .ok .recover
  | .none w => .no w
noncomputable def opA (ts : Tmps) (h : Heap) : AOp → R ONext
  | .mov x => .ok (.val (ev ts x) h)
  | .u1 u x => opU1 h (ev ts x) u
  | .b2 b x y => opB2 h (ev ts x) (ev ts y) b
  | .call f args => oCall (ev ts f) (evL ts args)
  | .u2 u x => opU2 h (ev ts x) u
  | .o3 o => opO3 ts h o

/-! ### The evaluator -/
structure APanic where
  v : AV
  recovered : Bool
  deriving Inhabited

/-- How the frame stands to its caller: an ordinary call · a deferred call of a frame that returns · of one that panics. -/
inductive RC where
  | plain
  | ret
  | pan (chain : List APanic)
  deriving Inhabited

structure St where
  tmps : Tmps
  defers : List ADef
  rc : RC
  heap : Heap
  deriving Inhabited

inductive Exit where
  | normal
  | exit (id : Nat)
  | ret
  | panic (chain : List APanic)
  deriving Inhabited

inductive CExit where
  | ret (v : AV)
  | panic (chain : List APanic)
  deriving Inhabited

inductive Task where
  | code (fn : FuncId) (rd : Option Nat) (c : AC) (s : St)
  | call (f : FuncId) (args : List AV) (rc : RC) (h : Heap)
  | unwind (f : FuncId) (mode : Option (List APanic)) (s : St)
  | round (l : Nat) (args : List AV) (h : Heap)

inductive Ans where
  | code (x : Exit) (s : St)
  | call (x : CExit) (rc : RC) (h : Heap)

noncomputable def wantedA (ts : Tmps) : Option (Nat × Bool) → R Bool
  | none => .ok true
  | some (t, want) => match tget ts t with
    | .bool b => .ok (beqB b want)
    | .unk => .no "guard"
    | _ => .ok false

noncomputable def resultsA (h : Heap) (ts : Tmps) : List ARes → R (List AV)
  | [] => .ok []
  | .tmp t :: r => (resultsA h ts r).bind fun l => .ok (tget ts t :: l)
  | .cell a n :: r => (loadA h n (tget ts a)).bind fun v => (resultsA h ts r).bind fun l => .ok (v :: l)

noncomputable def oneOf : List AV → AV
  | [v] => v
  | l => .tup l

noncomputable def bindParams : List Nat → List AV → Tmps → Option Tmps
  | [], [], ts => some ts
  | p :: ps, a :: as, ts => bindParams ps as ((p, a) :: ts)
  | _, _, _ => none

noncomputable def argTmps : Nat → List AV → Tmps
  | _, [] => []
  | i, a :: r => (i, a) :: argTmps (i + 1) r

/-- The temporaries that no operation of a region writes. -/
noncomputable def tdrop (ops : List DOper) (ts : Tmps) : Tmps := ts.filter fun (t, _) => ops.all fun o => match o.o.dst with | some d => (match Nat.beq d t with | true => false | false => true) | none => true

/-- Equal values (so many levels deep). -/
noncomputable def kEq (k j : IntKind) : Bool := decide (k = j)
noncomputable def tkEq : Tk → Tk → Bool
  | .full, .full => true
  | .dead, .dead => true
  | .opn a b, .opn c d => Nat.beq a c && Nat.beq b d
  | _, _ => false
noncomputable def allEq (f : AV → AV → Bool) : List AV → List AV → Bool
  | [], [] => true
  | a :: r, b :: q => match f a b with
    | true => allEq f r q
    | false => false
  | _, _ => false
noncomputable def avEqStep (f : AV → AV → Bool) (a b : AV) : Bool := match a, b with
  | .bool a, .bool b => beqB a b
  | .int k a, .int j b => kEq k j && ieq a b
  | .str a, .str b => bytesEq a b
  | .ptr i o, .ptr j p => Nat.beq i j && Nat.beq o p
  | .nilptr, .nilptr => true
  | .ep c o, .ep d p => allEq f c d && Nat.beq o p
  | .sl t xs, .sl u ys => tkEq t u && allEq f xs ys
  | .nilsl, .nilsl => true
  | .arr a b c d, .arr e g h i => Nat.beq a e && Nat.beq b g && Nat.beq c h && Nat.beq d i
  | .map i, .map j => Nat.beq i j
  | .nilmap, .nilmap => true
  | .fn g a b, .fn h c d => Nat.beq g h && allEq f a c && allEq f b d
  | .yield l, .yield k => Nat.beq l k
  | .nilfn, .nilfn => true
  | .iface t v, .iface u w => Nat.beq t u && f v w
  | .nilif, .nilif => true
  | .agg a, .agg b => allEq f a b
  | .tup a, .tup b => allEq f a b
  | _, _ => false
noncomputable def avEq (n : Nat) : AV → AV → Bool := Nat.rec (fun _ _ => false) (fun _ ih => avEqStep ih) n
def eqDepth : Nat := 24

/-- What an operation comes to, as the frame takes it. Calls go by 'rec'. -/
noncomputable def putV (o : AOper) (s : St) (v : AV) (h : Heap) : R (Exit × St) := .ok (.normal, ⟨tput o.dst v s.tmps, s.defers, s.rc, h⟩)
noncomputable def called (o : AOper) (s : St) : Ans → R (Exit × St)
  | .call (.ret v) _ h => putV o s v h
  | .call (.panic ch) _ h => .ok (.panic ch, ⟨s.tmps, s.defers, s.rc, h⟩)
  | _ => .no "call"
noncomputable def recoverA (rd : Option Nat) (o : AOper) (s : St) : R (Exit × St) := match rd, s.rc with
  | none, .ret => putV o s .nilif s.heap
  | none, .pan ({ v, recovered := false } :: older) => .ok (.normal, ⟨tput o.dst v s.tmps, s.defers, .pan ({ v, recovered := true } :: older), s.heap⟩)
  | none, .pan _ => putV o s .nilif s.heap
  | _, _ => .no "recover"
noncomputable def deferA (rd : Option Nat) (o : AOper) (s : St) (d : ADef) : R (Exit × St) := match rd with
  | none => .ok (.normal, ⟨tput o.dst undefA s.tmps, d :: s.defers, s.rc, s.heap⟩)
  | some _ => .no "defer in a round"
noncomputable def takeNext (rec : Task → R Ans) (rd : Option Nat) (o : AOper) (s : St) : ONext → R (Exit × St)
  | .val v h => putV o s v h
  | .skip h => putV o s undefA h
  | .defer d => deferA rd o s d
  | .recover => recoverA rd o s
  | .panic v => .ok (.panic [{ v, recovered := false }], s)
  | .enter f args => (rec (.call f args .plain s.heap)).bind (called o s)
  | .round l args => (rec (.round l args s.heap)).bind (called o s)
noncomputable def stepOper (rec : Task → R Ans) (rd : Option Nat) (o : AOper) (s : St) : R (Exit × St) :=
  (wantedA s.tmps o.guard).bind fun w => match w with
    | false => putV o s undefA s.heap
    | true => (opA s.tmps s.heap o.op).bind (takeNext rec rd o s)

abbrev F := FuncId → Option AFn

noncomputable def loopOf (h : Heap) (l : Nat) : R ALoop := match h.get l with
  | some (.loop r) => .ok r
  | _ => .no "no such loop"

noncomputable def endRound (h : Heap) (l : Nat) (j : Option Jump) : R (AV × Heap) :=
  (loopOf h l).bind fun r => match j with
    | none => .ok (.bool true, h.set l (.loop { r with state := .ready, pending := none }))
    | some j => .ok (.bool false, h.set l (.loop { r with state := .done, pending := some j }))

noncomputable def thenKeep (keep : Option (List Nat)) : Ans → R Ans
  | .code .normal s => .ok (.code .normal ⟨tkeep keep s.tmps, s.defers, s.rc, s.heap⟩)
  | a => .ok a
noncomputable def thenBlock (id : Nat) : Ans → R Ans
  | .code (.exit i) s => match Nat.beq i id with
    | true => .ok (.code .normal s)
    | false => .ok (.code (.exit i) s)
  | r => .ok r
noncomputable def rfDefers (rd : Option Nat) (s : St) : R (Nat × List ADef × Heap) := match rd with
  | some l => (loopOf s.heap l).bind fun r => .ok (r.defers, s.defers, s.heap)
  | none => .ok (s.heap.next, .collected s.heap.next :: s.defers, s.heap.push (.deferred (some [])))
noncomputable def afterLoop (s : St) (h : Heap) (l : Nat) (r : ALoop) : R Ans :=
  let s' : St := ⟨s.tmps, s.defers, s.rc, h.set l (.loop { r with state := .exhausted })⟩
  match r.pending with
  | none => .ok (.code .normal s')
  | some .ret => .ok (.code .ret s')
  | some (.exit id) => .ok (.code (.exit id) s')
noncomputable def afterRf (s : St) (l : Nat) : Ans → R Ans
  | .call (.ret _) _ h => (loopOf h l).bind fun r => match r.state with
    | .busy => .no "loop busy"
    | _ => afterLoop s h l r
  | .call (.panic ch) _ h => .ok (.code (.panic ch) ⟨s.tmps, s.defers, s.rc, h⟩)
  | _ => .no "rf"
noncomputable def rfCall (rec : Task → R Ans) (s : St) (l : Nat) : AV → R Ans
  | .fn g first captured => (rec (.call g (first ++ (AV.yield l :: captured)) .plain s.heap)).bind (afterRf s l)
  | _ => .no "rf: function"
noncomputable def rfA (rec : Task → R Ans) (fn : FuncId) (rd : Option Nat) (f : Opd) (params : List Nat) (assign body : AC) (s : St) : R Ans :=
  (rfDefers rd s).bind fun (d, ds, h) =>
    rfCall rec ⟨s.tmps, ds, s.rc, h.push (.loop ⟨.ready, none, fn, s.tmps, params, assign, body, d⟩)⟩ h.next (ev s.tmps f)

noncomputable def thenOps (k : St → R Ans) : Exit × St → R Ans
  | (.normal, s) => k s
  | (x, s) => .ok (.code x s)
noncomputable def opsA (rec : Task → R Ans) (rd : Option Nat) (l : List AOper) : St → R Ans :=
  List.rec (fun s => .ok (.code .normal s)) (fun o _ ih s => (stepOper rec rd o s).bind (thenOps ih)) l
/-- What is to be checked of an order: a look, made then, comes to the same at these heaps; a new variable is untouched in these. -/
inductive DRec where
  | look (ts : Tmps) (o : AOper) (v : AV) (win : List Nat)
  | pre (id : Nat) (zero : List AV) (win : List Nat)
structure DAns where
  x : Exit
  s : St
  vs : List Heap
  rs : List DRec
noncomputable def lookNext : ONext → R AV
  | .val v _ => .ok v
  | _ => .no "look"
noncomputable def lookVal (ts : Tmps) (h : Heap) (o : AOper) : R AV :=
  (wantedA ts o.guard).bind fun w => match w with
    | false => .ok undefA
    | true => (opA ts h o.op).bind lookNext
noncomputable def lookSame (ts : Tmps) (o : AOper) (v : AV) : Option Heap → Bool
  | none => true
  | some g => match lookVal ts g o with
    | .ok u => avEq eqDepth v u
    | .no _ => false
noncomputable def preSame (id : Nat) (zero : List AV) : Option Heap → Bool
  | none => true
  | some g => match g.get id with
    | some (.cells cs) => allEq (avEq eqDepth) zero cs
    | _ => false
noncomputable def allWin (f : Nat → Bool) : List Nat → Bool
  | [] => true
  | k :: r => match f k with
    | true => allWin f r
    | false => false
noncomputable def recOk (vs : List Heap) : DRec → Bool
  | .look ts o v win => allWin (fun k => lookSame ts o v (nth vs k)) win
  | .pre id zero win => allWin (fun k => preSame id zero (nth vs k)) win
noncomputable def recsOk (vs : List Heap) : List DRec → Bool
  | [] => true
  | r :: l => match recOk vs r with
    | true => recsOk vs l
    | false => false
noncomputable def preHeap (l : List DOper) : Heap → Heap := List.rec (fun h => h) (fun o _ ih h => match o.k with
  | .pre zero _ => ih (h.push (.cells zero))
  | _ => ih h) l
noncomputable def afterHard (last : Bool) (k : List Heap → St → R DAns) (vs : List Heap) (rs : List DRec) : Exit × St → R DAns
  | (.normal, s) => k (s.heap :: vs) s
  | (.panic ch, s) => match last with
    | true => .ok ⟨.panic ch, s, vs, rs⟩
    | false => .no "dreg: a panic"
  | _ => .no "dreg: exit"
noncomputable def dstep (rec : Task → R Ans) (rd : Option Nat) (o : AOper) (ih : Nat → List Heap → List DRec → St → R DAns) (q : Nat) (vs : List Heap) (rs : List DRec) (s : St) : DK → R DAns
  | .soft => (lookVal s.tmps s.heap o).bind fun v => ih q vs rs ⟨tput o.dst v s.tmps, s.defers, s.rc, s.heap⟩
  | .look win => (lookVal s.tmps s.heap o).bind fun v => ih q vs (.look s.tmps o v win :: rs) ⟨tput o.dst v s.tmps, s.defers, s.rc, s.heap⟩
  | .hard last => (stepOper rec rd o s).bind (afterHard last (fun vs s => ih q vs rs s) vs rs)
  | .pre zero win => ih (q + 1) vs (.pre q zero win :: rs) ⟨tput o.dst (.ptr q 0) s.tmps, s.defers, s.rc, s.heap⟩
noncomputable def dopsA (rec : Task → R Ans) (rd : Option Nat) (l : List DOper) : Nat → List Heap → List DRec → St → R DAns :=
  List.rec (fun _ vs rs s => .ok ⟨.normal, s, vs, rs⟩) (fun o _ ih q vs rs s => dstep rec rd o.o ih q vs rs s o.k) l
noncomputable def dregEnd (ops : List DOper) (keep : Option (List Nat)) (ts : Tmps) (r : DAns) : R Ans :=
  match recsOk r.vs.reverse r.rs with
  | false => .no "dreg: the order matters"
  | true => match r.x with
    | .normal => .ok (.code .normal ⟨tkeep keep r.s.tmps, r.s.defers, r.s.rc, r.s.heap⟩)
    | x => .ok (.code x ⟨tdrop ops ts, r.s.defers, r.s.rc, r.s.heap⟩)
noncomputable def dregA (rec : Task → R Ans) (rd : Option Nat) (ops : List DOper) (keep : Option (List Nat)) (s : St) : R Ans :=
  (dopsA rec rd ops s.heap.next [preHeap ops s.heap] [] ⟨s.tmps, s.defers, s.rc, preHeap ops s.heap⟩).bind (dregEnd ops keep s.tmps)

noncomputable def thenK (k : St → R Ans) : Ans → R Ans
  | .code .normal s => k s
  | r => .ok r
noncomputable def condA (thn els : St → R Ans) (s : St) : AV → R Ans
  | .bool true => thn s
  | .bool false => els s
  | _ => .no "cond"
noncomputable def codeA (rec : Task → R Ans) (fn : FuncId) (rd : Option Nat) (c : AC) : St → R Ans :=
  AC.rec
    (fun s => .ok (.code .normal s))
    (fun ops keep s => (opsA rec rd ops s).bind (thenKeep keep))
    (fun ops keep s => dregA rec rd ops keep s)
    (fun _ _ iha ihb s => (iha s).bind (thenK ihb))
    (fun c _ _ iht ihe s => condA iht ihe s (ev s.tmps c))
    (fun id _ ih s => (ih s).bind (thenBlock id))
    (fun body ih s => (ih s).bind (thenK fun s => rec (.code fn rd (.loop body) s)))
    (fun f params assign body _ _ s => rfA rec fn rd f params assign body s)
    (fun id s => .ok (.code (.exit id) s))
    (fun _ ih s => ih s)
    (fun s => .ok (.code .ret s))
    (fun w _ => .no w)
    c

noncomputable def afterBody (rec : Task → R Ans) (f : FuncId) : Ans → R Ans
  | .code .normal s => rec (.unwind f none s)
  | .code .ret s => rec (.unwind f none s)
  | .code (.panic ch) s => rec (.unwind f (some ch) s)
  | _ => .no "call: exit"
noncomputable def callB (fns : F) (rec : Task → R Ans) (f : FuncId) (args : List AV) (rc : RC) (h : Heap) : R Ans := match fns f with
  | none => .no "no such function"
  | some fn => (rec (.code f none fn.body ⟨argTmps 0 args, [], rc, h⟩)).bind (afterBody rec f)
/-- What is known of functions without parameters that leave the heap. -/
abbrev Orc := FuncId → Option AV
noncomputable def orcCall (v : AV) (h : Heap) : List AV → RC → R Ans
  | [], .plain => .ok (.call (.ret v) .plain h)
  | _, _ => .no "oracle"
noncomputable def callA (fns : F) (orc : Orc) (rec : Task → R Ans) (f : FuncId) (args : List AV) (rc : RC) (h : Heap) : R Ans := match orc f with
  | some v => orcCall v h args rc
  | none => callB fns rec f args rc h

noncomputable def afterDefer (rec : Task → R Ans) (f : FuncId) (mode : Option (List APanic)) (ts : Tmps) (ds : List ADef) (rc : RC) : Ans → R Ans
  | .call (.ret _) rc' h => match mode, rc' with
    | some _, .pan ({ recovered := true, .. } :: _) => rec (.unwind f none ⟨ts, ds, rc, h⟩)
    | some _, .pan ch => rec (.unwind f (some ch) ⟨ts, ds, rc, h⟩)
    | none, .ret => rec (.unwind f none ⟨ts, ds, rc, h⟩)
    | _, _ => .no "unwind"
  | .call (.panic ch') rc' h => match mode, rc' with
    | some _, .pan ch => rec (.unwind f (some (ch' ++ ch)) ⟨ts, ds, rc, h⟩)
    | none, .ret => rec (.unwind f (some ch') ⟨ts, ds, rc, h⟩)
    | _, _ => .no "unwind"
  | _ => .no "unwind"
noncomputable def modeRC : Option (List APanic) → RC
  | none => .ret
  | some ch => .pan ch
noncomputable def endA (fns : F) (f : FuncId) (mode : Option (List APanic)) (s : St) : R Ans := match mode with
  | some ch => .ok (.call (.panic ch) s.rc s.heap)
  | none => match fns f with
    | none => .no "no such function"
    | some fn => (resultsA s.heap s.tmps fn.results).bind fun l => .ok (.call (.ret (oneOf l)) s.rc s.heap)
noncomputable def collectA (rec : Task → R Ans) (f : FuncId) (mode : Option (List APanic)) (s : St) (b : Nat) (ds : List ADef) : R Ans := match s.heap.get b with
  | some (.deferred (some l)) => rec (.unwind f mode ⟨s.tmps, l ++ ds, s.rc, s.heap.set b (.deferred none)⟩)
  | _ => .no "collected"
noncomputable def unwindA (fns : F) (rec : Task → R Ans) (f : FuncId) (mode : Option (List APanic)) (s : St) : R Ans := match s.defers with
  | .collected b :: ds => collectA rec f mode s b ds
  | .call g args :: ds => (rec (.call g args (modeRC mode) s.heap)).bind (afterDefer rec f mode s.tmps ds s.rc)
  | [] => endA fns f mode s

noncomputable def roundEnd (h : Heap) (l : Nat) (j : Option Jump) : R Ans := (endRound h l j).bind fun (v, h) => .ok (.call (.ret v) .plain h)
noncomputable def panicRound (ch : List APanic) (h : Heap) : Option AFn → List ADef → R Ans
  | some _, [] => .ok (.call (.panic ch) .plain h)
  | _, _ => .no "round: panic"
noncomputable def afterRound (fns : F) (fn : FuncId) (l : Nat) : Ans → R Ans
  | .code .normal s => roundEnd s.heap l none
  | .code .ret s => roundEnd s.heap l (some .ret)
  | .code (.exit id) s => roundEnd s.heap l (some (.exit id))
  | .code (.panic ch) s => panicRound ch s.heap (fns fn) s.defers
  | _ => .no "round"
noncomputable def beginBody (fns : F) (rec : Task → R Ans) (l : Nat) (fn : FuncId) (body : AC) : Ans → R Ans
  | .code .normal s => (loopOf s.heap l).bind fun r' => match r'.state with
    | .ready => (rec (.code fn (some l) body ⟨s.tmps, s.defers, s.rc, s.heap.set l (.loop { r' with state := .busy })⟩)).bind (afterRound fns fn l)
    | _ => .no "round: state"
  | _ => .no "round: assign"
noncomputable def roundA (fns : F) (rec : Task → R Ans) (l : Nat) (args : List AV) (h : Heap) : R Ans :=
  (loopOf h l).bind fun r => match bindParams r.params args r.tmps with
    | none => .no "yield: arguments"
    | some ts => (rec (.code r.fn (some l) r.assign ⟨ts, [], .plain, h⟩)).bind (beginBody fns rec l r.fn r.body)

noncomputable def evalStep (fns : F) (orc : Orc) (rec : Task → R Ans) : Task → R Ans
  | .code fn rd c s => codeA rec fn rd c s
  | .call f args rc h => callA fns orc rec f args rc h
  | .unwind f mode s => unwindA fns rec f mode s
  | .round l args h => roundA fns rec l args h

noncomputable def eval (fns : F) (orc : Orc) (n : Nat) : Task → R Ans :=
  Nat.rec (fun _ => .no "fuel") (fun _ ih t => evalStep fns orc ih t) n

end Go.Am
