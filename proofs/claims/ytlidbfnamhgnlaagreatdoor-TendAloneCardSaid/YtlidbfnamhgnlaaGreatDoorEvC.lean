/- From the loaded code to the evaluator's: each number of a type is looked up once. -/
import Derived.Test.YtlidbfnamhgnlaaGreatDoorEvB
namespace Go.Ev
open Go

mutual
def avOf : Value → Option AV
  | .bool b => some (.bool b)
  | .int k n => some (.int k n)
  | .string s => some (.str s)
  | .slice none 0 0 => some (.sl .nil 0 [])
  | .pointer none => some .nilp
  | .nilFunc => some .nilf
  | .nilIface => some .nili
  | .agg ⟨cs⟩ => (avsOf cs).map .agg
  | _ => none
def avsOf : List Value → Option (List AV)
  | [] => some []
  | v :: vs => match avOf v, avsOf vs with
    | some x, some xs => some (x :: xs)
    | _, _ => none
end

def opdOf : Operand → Option Opd
  | .tmp t => some (.t t)
  | .const v => (avOf v).map .c
  | .func f => some (.c (.fn f []))
  | .global _ => none

def opdO : Option Operand → Option (Option Opd)
  | none => some none
  | some x => (opdOf x).map some

def opdsOf : List Operand → Option (List Opd)
  | [] => some []
  | x :: xs => match opdOf x, opdsOf xs with
    | some y, some ys => some (y :: ys)
    | _, _ => none

section
variable (P : Program)

def szOf (t : TypeId) : Option Nat := (P.info? t).map (·.size)
def agOf (t : TypeId) : Option Bool := (P.underlying t).map fun d => match d with
  | .struct _ | .array _ _ => true
  | _ => false
def zeroOf (t : TypeId) : Option AV := ((P.info? t).bind (·.zero)).bind avOf
def elemOfSl (t : TypeId) : Option TypeId := match P.underlying t with
  | some (.slice e) => some e
  | _ => none

/-- How many elements of a type may lie in one slice. -/
def limOf (t : TypeId) : Option Nat := (P.info? t).map fun i => 140737488355328 / (max i.bytes 1)

/-- A struct of integers, texts, bools and structs of these alone, whose fields lie one behind the other and all count: its cells. -/
def plainFs (rec : TypeId → Option (List LK)) : Nat → List Field → Option (List LK)
  | _, [] => some []
  | off, f :: fs => if f.name = "_" ∨ f.offset ≠ off then none else
    match rec f.type, szOf P f.type, agOf P f.type with
    | some l, some s, some ag => if l.length = s ∧ 0 < s ∧ (ag = true ∨ s = 1) then (plainFs rec (off + s) fs).map (l ++ ·) else none
    | _, _, _ => none

def plainT : Nat → TypeId → Option (List LK)
  | 0, _ => none
  | d + 1, t =>
    if P.stoodInHeld t then none else
    match P.underlying t with
    | some (.int _) => some [.i]
    | some .string => some [.s]
    | some .bool => some [.b]
    | some (.struct fs) => plainFs P (plainT d) 0 fs.toList
    | _ => none

def plOf (ops : Array Oper) : Nat → Operand → Option Pl
  | 0, _ => none
  | n + 1, .tmp s =>
    match ops.toList.find? (fun o => o.dst == some s) with
    | none => some (.slot s)
    | some o => match o.op with
      | .load _ a => (opdOf a).map .fld
      | .move y | .assign y => plOf ops n y
      | _ => none
  | _, _ => none

/-- The header whose element's address an operand is. -/
def plAddr (ops : Array Oper) : Nat → Operand → Option Pl
  | 0, _ => none
  | n + 1, .tmp s =>
    match ops.toList.find? (fun o => o.dst == some s) with
    | none => none
    | some o => match o.op with
      | .indexAddr _ x _ => plOf ops n x
      | .fieldAddr _ x _ => plAddr ops n x
      | .nilCheck x | .move x => plAddr ops n x
      | _ => none
  | _, _ => none

/-- The header of which an operand is a part. -/
def plCut (ops : Array Oper) : Nat → Operand → Option Pl
  | 0, _ => none
  | n + 1, .tmp s =>
    match ops.toList.find? (fun o => o.dst == some s) with
    | none => some (.slot s)
    | some o => match o.op with
      | .slice _ x _ _ _ => plOf ops n x
      | .move x => plCut ops n x
      | _ => none
  | _, _ => none

def nilC : Opd → Bool
  | .c .nili => true
  | _ => false

def eqOfT (P : Program) (op : BinOp) (neg : Bool) (t : TypeId) (x y : Opd) : Option MOp :=
  match P.underlying t with
  | some .bool => some (.eqB neg x y)
  | some (.int _) | some .string => some (.bin op x y)
  | some (.pointer _) => some (.eqP neg x y)
  | some (.interface _) => if nilC x || nilC y then some (.eqI neg x y) else none
  | some (.struct _) => if P.eqGuardType P.depth t then none else (plainT P 8 t).map fun n => .eqA neg n x y
  | _ => none

def binOfT (P : Program) (op : BinOp) (t : TypeId) (x y : Opd) : Option MOp :=
  match op with
  | .eql => eqOfT P .eql false t x y
  | .neq => eqOfT P .neq true t x y
  | op => some (.bin op x y)

def partsOf (P : Program) (fs : Array Field) : List (Nat × Operand) → Option (List (Nat × Nat × Opd))
  | [] => some []
  | (i, x) :: ps => match fs[i]?, opdOf x, partsOf P fs ps with
    | some f, some y, some l => match szOf P f.type with
      | some s => some ((f.offset, s, y) :: l)
      | none => none
    | _, _, _ => none

def compOp (ops : Array Oper) (k : Nat) (o : Oper) : Option MOp :=
  match o.op with
  | .move x | .assign x => (opdOf x).map .mv
  | .pick c a b => match opdOf c, opdOf a, opdOf b with
    | some c, some a, some b => some (.pick c a b)
    | _, _, _ => none
  | .alloc t => (zeroOf P t).map fun z => .alloc k z.cells
  | .box _ x => (opdOf x).map (.box k)
  | .build t ps => match P.underlying t, zeroOf P t with
    | some (.struct fs), some z => if fs.toList.all (fun f => (szOf P f.type).isSome) = true then (partsOf P fs ps.toList).map fun l => .build z.cells l else none
    | _, _ => none
  | .buildSlice t len ps => match (elemOfSl P t).bind (szOf P) with
    | some sz => if ps.toList.map (·.1) = List.range len ∧ len * sz ≤ 16777216 ∧ ((elemOfSl P t).bind (zeroOf P)).isSome = true then (opdsOf (ps.toList.map (·.2))).map fun l => .mkSl k sz l else none
    | none => none
  | .load t a => match agOf P t, szOf P t, opdOf a with
    | some ag, some sz, some a => if ag || sz = 1 then some (.load ag sz a) else none
    | _, _, _ => none
  | .store t a x => match szOf P t, opdOf a, opdOf x with
    | some sz, some a', some x => some (.store sz a' x (plAddr ops 12 a))
    | _, _, _ => none
  | .nilCheck x => (opdOf x).map .nilck
  | .binOp op t x y _ => match opdOf x, opdOf y with
    | some x, some y => binOfT P op t x y
    | _, _ => none
  | .unOp op _ x => (opdOf x).map (.un op)
  | .convert s d x => match P.underlying s, P.underlying d, opdOf x with
    | some (.int _), some (.int k'), some x => some (.convI k' x)
    | some .string, some .string, some x => some (.strS x)
    | some .string, some (.slice e), some x => match P.underlying e with
      | some (.int .u8) => some (.convS k 140737488355328 x)
      | _ => none
    | some (.slice e), some .string, some x => match P.underlying e with
      | some (.int .u8) => some (.convB x)
      | _ => none
    | _, _, _ => none
  | .makeInterface t x => match P.underlying t with
    | some (.interface _) => none
    | some _ => (opdOf x).map (.mkIfc t)
    | none => none
  | .makeFunc (.func f) first cs => if first.isEmpty then (opdsOf cs.toList).map (.mkFn f) else none
  | .slice t x lo hi mx => match P.underlying t, opdOf x, opdO lo, opdO hi, opdO mx with
    | some .string, some x, some lo, some hi, some none => some (.sliceS x lo hi)
    | some (.slice e), some x, some lo, some hi, some mx => (szOf P e).bind fun sz => if mx.isSome && hi.isNone then none else some (.slice k sz x lo hi mx)
    | _, _, _, _, _ => none
  | .fieldAddr t x f => match P.underlying t, opdOf x with
    | some (.struct fs), some x => match fs[f]? with
      | some f => match szOf P f.type with
        | some s => if s = 0 then none else some (.fadr f.offset x)
        | none => none
      | none => none
    | _, _ => none
  | .field t x f => match P.underlying t, opdOf x with
    | some (.struct fs), some x => match fs[f]? with
      | some f => match agOf P f.type, szOf P f.type with
        | some ag, some s => if ag || s = 1 then some (.field ag f.offset s x) else none
        | _, _ => none
      | none => none
    | _, _ => none
  | .indexAddr t x i => match (elemOfSl P t).bind (szOf P), opdOf x, opdOf i with
    | some sz, some x, some i => some (.iadr sz x i)
    | _, _, _ => none
  | .index t x i => match P.underlying t, opdOf x, opdOf i with
    | some .string, some x, some i => some (.idx x i)
    | _, _, _ => none
  | .range t x => match P.underlying t, opdOf x with
    | some .string, some x => some (.range k x)
    | _, _ => none
  | .next x true => (opdOf x).map .next
  | .typeAssert x _ t ok => match P.underlying t, zeroOf P t, opdOf x with
    | some (.interface _), _, _ => none
    | some _, some z, some x => some (.assert t ok z x)
    | _, _, _ => none
  | .extract x i => (opdOf x).map (.ext i)
  | .call c => match c.callee with
    | .value (.func f) => (opdsOf c.args.toList).map (.call f)
    | .value x => match opdOf x, opdsOf c.args.toList with
      | some x, some xs => some (.callV x xs)
      | _, _ => none
    | .builtin .len => match c.argTypes[0]?, c.args.toList with
      | some t, [x] => match P.underlying t with
        | some .string => (opdOf x).map (.len true)
        | some (.slice _) => (opdOf x).map (.len false)
        | _ => none
      | _, _ => none
    | .builtin .append => match c.argTypes[0]?, c.argTypes[1]?, c.args.toList with
      | some t, some t', [x, y] => match elemOfSl P t, P.underlying t', opdOf x, opdOf y with
        | some e, some (.slice _), some x, some y | some e, some .string, some x, some y => match szOf P e, limOf P e, zeroOf P e with
          | some sz, some lim, some z => if 0 < sz ∧ z.cells.length = sz then some (.append k sz lim x y) else none
          | _, _, _ => none
        | _, _, _, _ => none
      | _, _, _ => none
    | .builtin .min => (opdsOf c.args.toList).map (.mnmx false)
    | .builtin .max => (opdsOf c.args.toList).map (.mnmx true)
    | .builtin .clear => match c.argTypes[0]?, c.args.toList with
      | some t, [x] => match elemOfSl P t, opdOf x, plCut ops 12 x with
        | some e, some x, some pl => match szOf P e, zeroOf P e with
          | some sz, some z => if 0 < sz ∧ z.cells.length = sz ∧ okCells z = true then some (.clear sz z x pl) else none
          | _, _ => none
        | _, _, _ => none
      | _, _ => none
    | _ => none
  | _ => none

def dstOk (nt : Nat) : Option Nat → Bool
  | some d => decide (d < nt)
  | none => true

def compI (nt : Nat) (ops : Array Oper) (k : Nat) (o : Oper) : Option MI :=
  if dstOk nt o.dst = true then
    match o.guard with
    | none => (compOp P ops k o).map fun m => ⟨o.dst, none, m, 0, 0⟩
    | some (j, b) => match (ops[j]?).bind (·.dst) with
      | some t => (compOp P ops k o).map fun m => ⟨o.dst, some (t, b), m, 0, 0⟩
      | none => none
  else none

def compIs (nt : Nat) (ops : Array Oper) : Nat → List Oper → Option (List MI)
  | _, [] => some []
  | k, o :: os => match compI P nt ops k o, compIs nt ops (k + 1) os with
    | some i, some is => some (i :: is)
    | _, _ => none

/-! ### drawn regions -/

def maskOf (acc : List Nat) (o : Oper) : Nat :=
  o.after.toList.foldl (fun m e => if Region.binds .any e then m ||| (acc[e.on]?.getD 0) ||| (1 <<< e.on) else m) 0

def masksOf : List Oper → List Nat → List Nat
  | [], acc => acc
  | o :: os, acc => masksOf os (acc ++ [maskOf acc o])

def bit (M : List Nat) (i k : Nat) : Bool := (M[i]?.getD 0).testBit k

def windows (is : List MI) (M : List Nat) (n : Nat) : Nat → List MI → List MI
  | _, [] => []
  | i, m :: ms => (if m.op.mut || m.op.lax then m else
      { m with back := ((List.range i).filter fun k => ((is[k]?).map (·.op.mut)).getD false && !bit M i k).length,
               fwd := ((List.range n).filter fun k => decide (i < k) && ((is[k]?).map (·.op.mut)).getD false && !bit M k i).length }) :: windows is M n (i + 1) ms

def dOk1 (is : List MI) (M : List Nat) (i : Nat) (m : MI) (o : Oper) (k : Nat) (m' : MI) : Bool :=
  (!bit M i k || o.after.toList.any fun e => Region.binds .any e && decide (e.on < i) && (decide (k = e.on) || bit M e.on k)) &&
  (decide (k = i) ||
    ((!(m.op.mut && m'.op.mut && decide (k < i)) || bit M i k) &&
     (m'.writes.all fun t => !m.writes.contains t && (!m.reads.contains t || (if k < i then bit M i k else bit M k i))) &&
     (m.op.mut || m.op.lax || !m'.op.mut ||
       (if k < i then !decide (nmut (is.take k) + m.back < nmut (is.take i)) || bit M i k else !decide (nmut (is.take i) + m.fwd ≤ nmut (is.take k)) || bit M k i))))

def dOk (ops : Array Oper) (is : List MI) (M : List Nat) : Bool :=
  (List.range ops.size).all fun i => match ops[i]?, is[i]? with
    | some o, some m => (o.after.toList.all fun e => !Region.binds .any e || decide (e.on < i)) && (List.range ops.size).all fun k => match is[k]? with
      | some m' => dOk1 is M i m o k m'
      | none => false
    | _, _ => false

def compD (nt : Nat) (ops : Array Oper) : Option MC :=
  (compIs P nt ops 0 ops.toList).bind fun is =>
    let M := masksOf ops.toList []
    let js := windows is M ops.size 0 is
    if dOk ops js M = true then some (.dreg ops.size js) else none

def compC (nt : Nat) : Code → Option MC
  | .skip => some .skip
  | .region _ ops draw => if draw then compD P nt ops else (compIs P nt ops 0 ops.toList).map (.reg ops.size)
  | .seq a b => match compC nt a, compC nt b with
    | some a, some b => some (.seq a b)
    | _, _ => none
  | .cond c a b => match opdOf c, compC nt a, compC nt b with
    | some c, some a, some b => some (.cond c a b)
    | _, _, _ => none
  | .block id c => (compC nt c).map (.block id)
  | .loop c => (compC nt c).map .loop
  | .exit id => some (.exit id)
  | .ret => some .ret
  | _ => none

def compR : ResultVar → Option MR
  | .tmp t => some (.tmp t)
  | .cell a t => match agOf P t, szOf P t with
    | some ag, some sz => if ag || sz = 1 then some (.cell a ag sz) else none
    | _, _ => none

def compRs : List ResultVar → Option (List MR)
  | [] => some []
  | r :: rs => match compR P r, compRs rs with
    | some m, some ms => some (m :: ms)
    | _, _ => none

def compF (fn : Func) : Option MF :=
  match fn.body with
  | none => none
  | some c => match compC P fn.ntmps c, compRs P fn.results.toList with
    | some m, some rs => some ⟨fn.ntmps, m, rs⟩
    | _, _ => none
end
end Go.Ev
