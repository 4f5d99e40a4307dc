/-
  FROM THE MODEL'S CODE TO THE ABSTRACT MACHINE'S: types are resolved, constants are turned.
-/
import Derived.Test.YtobfakjhhpbdmaaGreatDoorAmDef
namespace Go.Am

/-- A constant, as an abstract value. -/
def ofVal : Nat → Value → Option AV
  | 0, _ => none
  | n + 1, v => match v with
    | .bool b => some (.bool b)
    | .int k i => some (.int k i)
    | .string s => some (.str s.data.toList)
    | .pointer none => some .nilptr
    | .slice none 0 0 => some .nilsl
    | .map none => some .nilmap
    | .nilFunc => some .nilfn
    | .nilIface => some .nilif
    | .agg cs => (cs.toList.mapM (ofVal n)).map .agg
    | .tuple vs => (vs.toList.mapM (ofVal n)).map .tup
    | _ => none

def vDepth : Nat := 4

def opd (genv : Nat → Option (List AV)) : Operand → Opd
  | .tmp t => .t t
  | .const v => .c ((ofVal vDepth v).getD .unk)
  | .global g => match genv g with
    | some cs => .c (.ep cs 0)
    | none => .c .unk
  | .func f => .c (.fn f [] [])

/-- The size of a struct or an array type, in cells; none of another type. -/
def aggOf (P : Program) (t : TypeId) : Option (Option Nat) :=
  match P.underlying t, P.info? t with
  | some (.struct _), some i | some (.array _ _), some i => some (some i.size)
  | some _, some _ => some none
  | _, _ => none

def sizeA (P : Program) (t : TypeId) : Option Nat := (P.info? t).map (·.size)

def zeroCells (P : Program) (t : TypeId) : Option (List AV) :=
  match P.info? t with
  | some i => match i.zero with
    | some z => z.cells.toList.mapM (ofVal vDepth)
    | none => none
  | none => none

def zeroA (P : Program) (t : TypeId) : Option AV :=
  match P.info? t with
  | some i => match i.zero with
    | some z => ofVal vDepth z
    | none => none
  | none => none

/-- The kind of a type of simple cells, that are compared without looking at memory. -/
def scalar (P : Program) (t : TypeId) : Option SK :=
  match P.underlying t, P.info? t with
  | some .bool, some i => if Nat.beq i.size 1 then some .bool else none
  | some (.int _), some i => if Nat.beq i.size 1 then some .int else none
  | some .string, some i => if Nat.beq i.size 1 then some .str else none
  | _, _ => none

def isConstO : Operand → Bool
  | .const _ => true
  | _ => false

/-- The cells of a struct's fields, one for each, from an offset on. -/
def flatFields (P : Program) : Nat → List Field → Option (List SK)
  | _, [] => some []
  | i, f :: r => if f.name != "_" && Nat.beq f.offset i then
      match scalar P f.type, flatFields P (i + 1) r with
      | some k, some ks => some (k :: ks)
      | _, _ => none
    else none

def flatType (P : Program) (t : TypeId) : Option (List SK) :=
  match P.underlying t with
  | some (.struct fs) => if !P.stoodInHeld t && !P.eqGuardType P.depth t then flatFields P 0 fs.toList else none
  | some (.array n e) => if !P.eqGuardType P.depth t then (scalar P e).map (List.replicate n) else none
  | _ => none

def eqK (P : Program) (t : TypeId) (x y : Operand) : Option EqK :=
  match P.underlying t with
  | some .bool => some (.simple .bool)
  | some (.int _) => some (.simple .int)
  | some .string => some (.simple .str)
  | some (.pointer _) => some (.simple .ptr)
  | some (.slice _) => some (.simple .sl)
  | some (.map _ _) => some (.simple .map)
  | some (.func _ _ _) => some (.simple .fn)
  | some (.interface _) => if isConstO x || isConstO y then some (.simple .iface) else none
  | some (.struct _) | some (.array _ _) => (flatType P t).map .cells
  | _ => none

/-- How a map's keys are compared. -/
def keyK (P : Program) (t : TypeId) : Option EqK :=
  match P.underlying t with
  | some .bool => some (.simple .bool)
  | some (.int _) => some (.simple .int)
  | some .string => some (.simple .str)
  | some (.array n e) => (scalar P e).map fun k => .cells (List.replicate n k)
  | _ => none

def orNone (w : String) : Option AOp → AOp
  | some o => o
  | none => .o3 (.none w)

def compCall (P : Program) (op : Operand → Opd) (c : Call) : AOp :=
  match c.callee with
  | .value f => .call (op f) (c.args.toList.map op)
  | .invoke _ _ => .o3 (.none "invoke")
  | .builtin b => match b, c.args.toList, c.argTypes.toList with
    | .len, [x], [t] => orNone "len" (match P.underlying t with
      | some .string => some (.u1 (.len .str) (op x))
      | some (.slice _) => some (.u1 (.len .sl) (op x))
      | some (.map _ _) => some (.u1 (.len .map) (op x))
      | _ => none)
    | .cap, [x], [t] => orNone "cap" (match P.underlying t with
      | some (.slice _) => some (.u2 .cap (op x))
      | _ => none)
    | .append, [s, x], [st, xt] => orNone "append" (match P.underlying st with
      | some (.slice e) => match sizeA P e, zeroCells P e, P.info? e with
        | some n, some z, some i => if Nat.beq st xt && Nat.ble 1 n && Nat.beq z.length n && Nat.ble i.bytes 65536 then some (.b2 (.append n) (op s) (op x)) else none
        | _, _, _ => none
      | _ => none)
    | .max, xs, _ => .o3 (.mx true (xs.map op))
    | .min, xs, _ => .o3 (.mx false (xs.map op))
    | .recover, [], _ => .o3 .recover
    | _, _, _ => .o3 (.none "builtin")

def compOp (P : Program) (genv : Nat → Option (List AV)) (o : Op) : AOp :=
  let op := opd genv
  match o with
  | .move x | .assign x => .mov (op x)
  | .pick c a b => .o3 (.pick (op c) (op a) (op b))
  | .alloc t => orNone "alloc" ((zeroCells P t).map fun z => .o3 (.alloc z))
  | .box _ x => .u2 .box (op x)
  | .build t parts => orNone "build" (match P.underlying t, zeroCells P t with
    | some (.struct fs), some z => if fs.toList.all (fun f => (sizeA P f.type).isSome) then (parts.toList.mapM (fun (p : Nat × Operand) => match (fs[p.1]? : Option Field) with
      | some f => (sizeA P f.type).map fun n => (f.offset, n, op p.2)
      | none => none)).map fun l => .o3 (.build z l) else none
    | some (.array _ e), some z => (sizeA P e).map fun n => .o3 (.build z (parts.toList.map fun (i, x) => (i * n, n, op x)))
    | _, _ => none)
  | .buildSlice t len parts => orNone "buildSlice" (match P.underlying t with
    | some (.slice e) => match sizeA P e, zeroA P e with
      | some n, some z => if Nat.ble 1 n && Nat.ble (len * n) 16777216 && (parts.toList.zipIdx.all fun q => Nat.beq q.1.1 q.2) && Nat.beq parts.size len then
          some (.o3 (.bslice n (parts.toList.map fun q => op q.2))) else none
      | _, _ => none
    | _ => none)
  | .load t a => orNone "load" ((aggOf P t).map fun n => .u1 (.load n) (op a))
  | .store t a x => orNone "store" ((sizeA P t).map fun n => .b2 (.store n) (op a) (op x))
  | .nilCheck x => .u1 .nilchk (op x)
  | .binOp .eql t x y _ => orNone "eql" ((eqK P t x y).map fun k => .b2 (.eq false k) (op x) (op y))
  | .binOp .neq t x y _ => orNone "neq" ((eqK P t x y).map fun k => .b2 (.eq true k) (op x) (op y))
  | .binOp b _ x y _ => .b2 (.bin b) (op x) (op y)
  | .unOp u _ x => .u2 (.un u) (op x)
  | .convert src dst x => orNone "convert" (match P.underlying src, P.underlying dst with
    | some (.int _), some (.int k) => some (.u2 (.cvInt k) (op x))
    | some .string, some .string => some (.u2 .cvStr (op x))
    | some .string, some (.slice e) => match P.underlying e with
      | some (.int .u8) => some (.u2 .cvBytes (op x))
      | _ => none
    | some (.slice e), some .string => match P.underlying e with
      | some (.int .u8) => some (.u2 .cvText (op x))
      | _ => none
    | _, _ => none)
  | .makeInterface t x => orNone "makeInterface" (match P.underlying t with
    | some (.interface _) | none => none
    | some _ => some (.u2 (.mkIf t) (op x)))
  | .makeFunc (.func f) first captured => .o3 (.mkFn f (first.toList.map op) (captured.toList.map op))
  | .makeMap t none => orNone "makeMap" (match P.underlying t with
    | some (.map _ _) => some (.o3 .mkMap)
    | _ => none)
  | .makeSlice t l c => orNone "makeSlice" (match P.underlying t with
    | some (.slice e) => match sizeA P e, zeroCells P e, P.info? e with
      | some n, some z, some i => if Nat.ble 1 n && Nat.beq z.length n && Nat.ble i.bytes 65536 then some (.b2 (.mkSlice z) (op l) (op c)) else none
      | _, _, _ => none
    | _ => none)
  | .slice t x lo hi mx => orNone "slice" (match P.underlying t with
    | some .string => match mx with
      | none => some (.o3 (.slc true 1 (op x) (lo.map op) (hi.map op) none))
      | some _ => none
    | some (.slice e) => match sizeA P e with
      | some n => if Nat.ble 1 n then some (.o3 (.slc false n (op x) (lo.map op) (hi.map op) (mx.map op))) else none
      | none => none
    | _ => none)
  | .fieldAddr s x f => orNone "fieldAddr" (match P.underlying s with
    | some (.struct fs) => match fs[f]? with
      | some f => if (sizeA P f.type).any (Nat.ble 1) then some (.u1 (.faddr f.offset) (op x)) else none
      | none => none
    | _ => none)
  | .field t x f => orNone "field" (match P.underlying t with
    | some (.struct fs) => match fs[f]? with
      | some f => (aggOf P f.type).map fun n => .u1 (.fld f.offset n) (op x)
      | none => none
    | _ => none)
  | .indexAddr t x i => orNone "indexAddr" (match P.underlying t with
    | some (.slice e) => match sizeA P e with
      | some n => if Nat.ble 1 n then some (.b2 (.iaddr n) (op x) (op i)) else none
      | none => none
    | some (.array len e) => match sizeA P e with
      | some n => if Nat.ble 1 n then some (.b2 (.iaddrArr len n) (op x) (op i)) else none
      | none => none
    | _ => none)
  | .index t x i => orNone "index" (match P.underlying t with
    | some .string => some (.b2 .idxStr (op x) (op i))
    | some (.array len e) => match sizeA P e, aggOf P e with
      | some n, some a => some (.b2 (.idxArr len n a) (op x) (op i))
      | _, _ => none
    | _ => none)
  | .lookup t m k ok => orNone "lookup" (match P.underlying t with
    | some (.map kt et) => match keyK P kt, zeroA P et with
      | some kn, some z => some (.b2 (.lookup kn z ok) (op m) (op k))
      | _, _ => none
    | _ => none)
  | .mapUpdate t m k v | .insert t m k v => orNone "mapUpdate" (match P.underlying t with
    | some (.map kt _) => (keyK P kt).map fun kn => .o3 (.mapUpd kn (op m) (op k) (op v))
    | _ => none)
  | .range t x => orNone "range" (match P.underlying t with
    | some .string => some (.u2 .range (op x))
    | _ => none)
  | .next x true => .u2 .next (op x)
  | .typeAssert x _ t true => orNone "typeAssert" (match P.underlying t with
    | some (.interface _) | none => none
    | some _ => (zeroA P t).map fun z => .u2 (.tassert t z) (op x))
  | .extract x i => .u1 (.extract i) (op x)
  | .call c => compCall P op c
  | .defer c => match c.callee with
    | .value f => .o3 (.defer (op f) (c.args.toList.map op))
    | _ => .o3 (.none "defer")
  | .panic x => .u2 .panic (op x)
  | _ => .o3 (.none "operation")

def compGuard (ops : Array Oper) (o : Oper) : Option (Option (Nat × Bool)) :=
  match o.guard with
  | none => some none
  | some (j, w) => match (ops[j]?).bind (·.dst) with
    | some t => some (some (t, w))
    | none => none

def dstOk (n : Nat) : Option Tmp → Bool
  | none => true
  | some d => Nat.blt d n

def compOper (P : Program) (genv : Nat → Option (List AV)) (n : Nat) (ops : Array Oper) (o : Oper) : AOper :=
  match compGuard ops o, dstOk n o.dst with
  | some g, true => { dst := o.dst, op := compOp P genv o.op, guard := g }
  | _, _ => { dst := none, op := .o3 (.none "guard or place"), guard := none }

/-! ### Regions that draw their order -/
inductive DCl where
  | soft | look | hard | pre (zero : List AV) | bad

def AOp.cls : AOp → DCl
  | .mov _ => .soft
  | .u1 u _ => match u with
    | .load _ => .look
    | .len .map => .look
    | _ => .soft
  | .b2 b _ _ => match b with
    | .store _ | .mkSlice _ | .append _ => .hard
    | .lookup _ _ _ => .look
    | _ => .soft
  | .call _ _ => .hard
  | .u2 u _ => match u with
    | .box | .range | .next | .panic => .hard
    | _ => .soft
  | .o3 o => match o with
    | .alloc zero => .pre zero
    | .mkMap | .mapUpd _ _ _ _ => .hard
    | .defer _ _ | .recover | .none _ => .bad
    | _ => .soft

def AOper.cls (o : AOper) : DCl := match o.op.cls, o.guard with
  | .pre _, some _ => .bad
  | c, _ => c

def Opd.uses : Opd → List Nat
  | .t n => [n]
  | .c _ => []
def usesL : List Opd → List Nat
  | [] => []
  | x :: r => x.uses ++ usesL r
def usesO : Option Opd → List Nat
  | some x => x.uses
  | none => []
def usesP : List (Nat × Nat × Opd) → List Nat
  | [] => []
  | (_, _, x) :: r => x.uses ++ usesP r
def O3.uses : O3 → List Nat
  | .pick c a b => c.uses ++ (a.uses ++ b.uses)
  | .alloc _ => []
  | .build _ parts => usesP parts
  | .bslice _ l => usesL l
  | .mkFn _ a b => usesL a ++ usesL b
  | .mkMap => []
  | .slc _ _ x lo hi u => x.uses ++ (usesO lo ++ (usesO hi ++ usesO u))
  | .mapUpd _ m k v => m.uses ++ (k.uses ++ v.uses)
  | .mx _ l => usesL l
  | .defer f l => f.uses ++ usesL l
  | .recover => []
  | .none _ => []
def AOp.uses : AOp → List Nat
  | .mov x => x.uses
  | .u1 _ x => x.uses
  | .u2 _ x => x.uses
  | .b2 _ x y => x.uses ++ y.uses
  | .call f l => f.uses ++ usesL l
  | .o3 o => o.uses
def AOper.uses (o : AOper) : List Nat := (match o.guard with | some (t, _) => [t] | none => []) ++ o.op.uses

/-- What stands ahead of an operation in every order, as bits; and of all of them. -/
def maskOf (acc : List Nat) (es : List Edge) : Nat := es.foldl (fun s e => if Region.binds .any e then s ||| 2 ^ e.on ||| (acc[e.on]?).getD 0 else s) 0
def masks : List Oper → List Nat → List Nat
  | [], acc => acc
  | o :: r, acc => masks r (acc ++ [maskOf acc o.after.toList])
def bit (ms : List Nat) (j i : Nat) : Bool := ((ms[j]?).getD 0).testBit i

def hardIdx : List AOper → Nat → List Nat
  | [], _ => []
  | o :: r, i => match o.cls with
    | .hard => i :: hardIdx r (i + 1)
    | _ => hardIdx r (i + 1)

/-- At the k-th of the region's heaps the operation may run. -/
def winAt (ms hs : List Nat) (j k : Nat) : Bool := (hs.take k).all (fun a => !bit ms a j) && (hs.drop k).all (fun a => !bit ms j a)
def win (ms hs : List Nat) (j : Nat) : List Nat := (List.range (hs.length + 1)).filter (winAt ms hs j)

def dkOf (n : Nat) (ms hs : List Nat) (o : AOper) (i : Nat) : DK := match o.cls with
  | .look => .look (win ms hs i)
  | .hard => .hard ((List.range' (i + 1) (n - (i + 1))).all fun j => bit ms j i)
  | .pre zero => .pre zero (win ms hs i)
  | _ => .soft

def dkinds (n : Nat) (ms hs : List Nat) : List AOper → Nat → List DOper
  | [], _ => []
  | o :: r, i => ⟨o, dkOf n ms hs o i⟩ :: dkinds n ms hs r (i + 1)

def notBad (o : AOper) : Bool := match o.cls with
  | .bad => false
  | _ => true
/-- No other operation of the region writes what this one looks at, unless their order stands; none writes where this one does. -/
def usesOk (ms : List Nat) (l : List AOper) (i : Nat) (o : AOper) : Bool :=
  l.zipIdx.all fun (p, j) => match p.dst with
    | none => true
    | some d => Nat.beq i j || ((match o.dst with | some e => !Nat.beq e d | none => true) &&
      (!(o.uses.any fun t => Nat.beq t d) || (if j < i then bit ms i j else bit ms j i)))
def edgesOk (i : Nat) (o : Oper) : Bool := o.after.toList.all fun e => !Region.binds .any e || Nat.blt e.on i
def chainOk (ms : List Nat) : List Nat → Bool
  | [] => true
  | a :: r => r.all (fun b => bit ms b a) && chainOk ms r

def preOk : Oper × AOper → Bool
  | (o, a) => match a.cls with
    | .pre _ => (match o.op with | .alloc _ => true | _ => false)
    | _ => true
def dregOk (ops : List Oper) (l : List AOper) (ms hs : List Nat) : Bool :=
  (ops.zip l).all preOk && l.all notBad && l.zipIdx.all (fun (o, i) => usesOk ms l i o) && ops.zipIdx.all (fun (o, i) => edgesOk i o) && chainOk ms hs

def compDreg (P : Program) (ops : List Oper) (l : List AOper) (keep : Option (List Nat)) : AC :=
  let ms := masks ops []
  let hs := hardIdx l 0
  if P.follows .mixedOrders && dregOk ops l ms hs then .dreg (dkinds l.length ms hs l 0) keep else .none "dreg"

def comp (P : Program) (genv : Nat → Option (List AV)) (n : Nat) (kp : Nat → Option (List Nat)) : Code → AC
  | .skip => .skip
  | .region id ops false => .reg (ops.toList.map (compOper P genv n ops)) (kp id)
  | .region id ops true => compDreg P ops.toList (ops.toList.map (compOper P genv n ops)) (kp id)
  | .seq a b => .seq (comp P genv n kp a) (comp P genv n kp b)
  | .cond c a b => .cond (opd genv c) (comp P genv n kp a) (comp P genv n kp b)
  | .block id b => .block id (comp P genv n kp b)
  | .loop b => .loop (comp P genv n kp b)
  | .rangeFunc f params a b => if params.toList.all (fun p => Nat.blt p n) then .rf (opd genv f) params.toList (comp P genv n kp a) (comp P genv n kp b) else .none "rangeFunc"
  | .exit id => .exit id
  | .scope b => .scope (comp P genv n kp b)
  | .label _ => .skip
  | .goto _ => .none "goto"
  | .ret => .ret
  | .refuse w => .none w

def compRes (P : Program) : ResultVar → Option ARes
  | .tmp t => some (.tmp t)
  | .cell a t => (aggOf P t).map (.cell a)

def compFn (P : Program) (genv : Nat → Option (List AV)) (kp : Nat → Option (List Nat)) (fn : Func) : Option AFn :=
  match fn.body, fn.results.toList.mapM (compRes P) with
  | some c, some rs => some { ntmps := fn.ntmps, results := rs, body := comp P genv fn.ntmps kp c }
  | _, _ => none

end Go.Am
