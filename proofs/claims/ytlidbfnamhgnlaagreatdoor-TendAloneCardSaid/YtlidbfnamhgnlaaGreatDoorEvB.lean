/- The evaluator: operations, code, calls. -/
import Derived.Test.YtlidbfnamhgnlaaGreatDoorEvA
namespace Go.Ev
open Go

inductive Opd where
  | t (n : Nat)
  | c (v : AV)

abbrev Env := Nat → AV

def Opd.ev (e : Env) : Opd → AV
  | .t n => e n
  | .c v => v

def upd {α : Type} (f : Nat → α) (i : Nat) (v : α) : Nat → α := fun j => if j = i then v else f j

theorem upd_eq {α : Type} (f : Nat → α) (i : Nat) (v : α) : upd f i v i = v := by simp [upd]
theorem upd_ne {α : Type} (f : Nat → α) (i j : Nat) (v : α) (h : j ≠ i) : upd f i v j = f j := by simp [upd, h]

/-- Where a slice's header lies whose element is stored to: in a variable's slot, or behind a pointer to a field. -/
inductive Pl where
  | slot (t : Nat)
  | fld (a : Opd)

/-- The kind of a cell. -/
inductive LK where
  | i | s | b
  deriving DecidableEq

inductive MOp where
  | mv (x : Opd)
  | pick (c a b : Opd)
  | alloc (k : Nat) (z : List AV)
  | box (k : Nat) (x : Opd)
  | build (z : List AV) (ps : List (Nat × Nat × Opd))
  | mkSl (k sz : Nat) (ps : List Opd)
  | load (ag : Bool) (sz : Nat) (a : Opd)
  | store (sz : Nat) (a x : Opd) (pl : Option Pl)
  | nilck (x : Opd)
  | bin (op : BinOp) (x y : Opd)
  | eqB (neg : Bool) (x y : Opd)
  | eqP (neg : Bool) (x y : Opd)
  | eqI (neg : Bool) (x y : Opd)
  | eqA (neg : Bool) (ls : List LK) (x y : Opd)
  | un (op : UnOp) (x : Opd)
  | convI (k : IntKind) (x : Opd)
  | convS (k lim : Nat) (x : Opd)
  | convB (x : Opd)
  | strS (x : Opd)
  | mkIfc (t : TypeId) (x : Opd)
  | mkFn (f : Nat) (cs : List Opd)
  | slice (k sz : Nat) (x : Opd) (lo hi mx : Option Opd)
  | sliceS (x : Opd) (lo hi : Option Opd)
  | fadr (off : Nat) (x : Opd)
  | field (ag : Bool) (off sz : Nat) (x : Opd)
  | iadr (sz : Nat) (x i : Opd)
  | idx (x i : Opd)
  | range (k : Nat) (x : Opd)
  | next (x : Opd)
  | assert (t : TypeId) (ok : Bool) (z : AV) (x : Opd)
  | ext (i : Nat) (x : Opd)
  | call (f : Nat) (xs : List Opd)
  | callV (f : Opd) (xs : List Opd)
  | len (str : Bool) (x : Opd)
  | append (k sz lim : Nat) (x y : Opd)
  | mnmx (mx : Bool) (xs : List Opd)
  | clear (sz : Nat) (z : AV) (x : Opd) (pl : Pl)

structure MI where
  dst : Option Nat
  guard : Option (Nat × Bool)
  op : MOp
  back : Nat
  fwd : Nat

inductive MC where
  | skip
  | reg (n : Nat) (is : List MI)
  | dreg (n : Nat) (is : List MI)
  | seq (a b : MC)
  | cond (c : Opd) (a b : MC)
  | block (id : Nat) (c : MC)
  | loop (c : MC)
  | exit (id : Nat)
  | ret

inductive MR where
  | tmp (t : Nat)
  | cell (a : Nat) (ag : Bool) (sz : Nat)

structure MF where
  nt : Nat
  body : MC
  res : List MR

/-! ## values -/

def okc (gens : Nat → Nat) : Cap → Bool
  | .fam τ g _ => gens τ == g
  | _ => true

def Cap.shift : Cap → Nat → Cap
  | .fam τ g o, n => .fam τ g (o + n)
  | c, _ => c

def setR (cs : List AV) (off : Nat) (ys : List AV) : Option (List AV) :=
  if off + ys.length ≤ cs.length then some (cs.take off ++ (ys ++ cs.drop (off + ys.length))) else none

def getR (ag : Bool) (cs : List AV) (off sz : Nat) : Option AV :=
  if ag then (if off + sz ≤ cs.length then some (.agg ((cs.drop off).take sz)) else none) else cs[off]?

def binI (op : BinOp) (k : IntKind) (a b : Int) : Option AV :=
  match op with
  | .add => some (.int k (k.wrap (a + b)))
  | .sub => some (.int k (k.wrap (a - b)))
  | .mul => some (.int k (k.wrap (a * b)))
  | .quo => if b = 0 then none else some (.int k (k.wrap (a.tdiv b)))
  | .rem => if b = 0 then none else some (.int k (a.tmod b))
  | .and => some (.int k (k.wrap (BitVec.ofInt k.bits a &&& BitVec.ofInt k.bits b).toNat))
  | .or => some (.int k (k.wrap (BitVec.ofInt k.bits a ||| BitVec.ofInt k.bits b).toNat))
  | .xor => some (.int k (k.wrap (BitVec.ofInt k.bits a ^^^ BitVec.ofInt k.bits b).toNat))
  | .andNot => some (.int k (k.wrap (BitVec.ofInt k.bits a &&& ~~~(BitVec.ofInt k.bits b)).toNat))
  | .eql => some (.bool (a == b))
  | .neq => some (.bool (a != b))
  | .lss => some (.bool (decide (a < b)))
  | .leq => some (.bool (decide (a ≤ b)))
  | .gtr => some (.bool (decide (a > b)))
  | .geq => some (.bool (decide (a ≥ b)))
  | _ => none

def binS (op : BinOp) (a b : ByteArray) : Option AV :=
  match op with
  | .add => if a.size + b.size ≤ 9223372036854775807 then some (.str (a ++ b)) else none
  | .eql => some (.bool (a.toList == b.toList))
  | .neq => some (.bool !(a.toList == b.toList))
  | .lss => some (.bool (Op.bytesLess a.toList b.toList))
  | .leq => some (.bool (Op.bytesLess a.toList b.toList || a.toList == b.toList))
  | .gtr => some (.bool !(Op.bytesLess a.toList b.toList || a.toList == b.toList))
  | .geq => some (.bool !(Op.bytesLess a.toList b.toList))
  | _ => none

def shiftI (left : Bool) (k : IntKind) (a b : Int) : Option AV :=
  if b < 0 then none else if left then some (.int k (k.wrap (a * 2 ^ (min b.toNat k.bits)))) else some (.int k (a.fdiv (2 ^ (min b.toNat k.bits))))

def evBin (op : BinOp) : AV → AV → Option AV
  | .int k a, .int k' b => match op with
    | .shl => shiftI true k a b
    | .shr => shiftI false k a b
    | op => if k = k' then binI op k a b else none
  | .str a, .str b => binS op a b
  | _, _ => none

def evEqB (neg : Bool) : AV → AV → Option AV
  | .bool a, .bool b => some (.bool (if neg then !(a == b) else a == b))
  | _, _ => none

def isNilp : AV → Option Bool
  | .nilp => some true
  | .ptr _ _ => some false
  | _ => none

def evEqP (neg : Bool) : AV → AV → Option AV
  | .nilp, y => (isNilp y).map fun b => .bool (b != neg)
  | x, .nilp => (isNilp x).map fun b => .bool (b != neg)
  | _, _ => none

def evEqI (neg : Bool) : AV → AV → Option AV
  | .nili, .nili => some (.bool (true != neg))
  | .nili, .ifc _ _ => some (.bool (false != neg))
  | .ifc _ _, .nili => some (.bool (false != neg))
  | _, _ => none

def eqCell : LK → AV → AV → Option Bool
  | .i, .int k a, .int k' b => if k = k' then some (a == b) else none
  | .s, .str a, .str b => some (a.toList == b.toList)
  | .b, .bool a, .bool b => some (a == b)
  | _, _, _ => none

def eqCells : List LK → List AV → List AV → Option Bool
  | [], [], [] => some true
  | l :: ls, x :: xs, y :: ys => match eqCell l x y, eqCells ls xs ys with
    | some b, some c => some (b && c)
    | _, _ => none
  | _, _, _ => none

def evEqA (neg : Bool) (ls : List LK) : AV → AV → Option AV
  | .agg xs, .agg ys => (eqCells ls xs ys).map fun b => .bool (b != neg)
  | _, _ => none

def evUn (op : UnOp) : AV → Option AV
  | .bool b => match op with
    | .not => some (.bool !b)
    | _ => none
  | .int k n => match op with
    | .neg => some (.int k (k.wrap (0 - n)))
    | .xor => some (.int k (k.wrap (BitVec.ofInt k.bits (if k.signed then -1 else k.max) ^^^ BitVec.ofInt k.bits n).toNat))
    | _ => none
  | _ => none

def natOf : AV → Option Nat
  | .int _ n => if 0 ≤ n then some n.toNat else none
  | _ => none

def bnd (d : Nat) : Option AV → Option Nat
  | none => some d
  | some v => natOf v

def evSlice (id g sz : Nat) (x : AV) (lo hi mx : Option AV) : Option AV :=
  match x with
  | .sl c s xs =>
    match bnd 0 lo, bnd xs.length hi with
    | some l, some h =>
      if l ≤ h ∧ h ≤ xs.length ∧ (s = sz ∨ c = .nil ∨ (c = .ro ∧ xs = [])) then
        match mx with
        | none => some (.sl (c.shift l) s ((xs.take h).drop l))
        | some m => match natOf m with
          | some m => if h ≤ m ∧ m ≤ xs.length then (if m = l then some (.sl (.fam id g 0) sz []) else some (.sl (c.shift l) s ((xs.take h).drop l))) else none
          | none => none
      else none
    | _, _ => none
  | _ => none

def evSliceS (x : AV) (lo hi : Option AV) : Option AV :=
  match x with
  | .str s =>
    match bnd 0 lo, bnd s.size hi with
    | some l, some h => if l ≤ h ∧ h ≤ s.size then some (.str (s.extract l h)) else none
    | _, _ => none
  | _ => none

def fillA (cs : List AV) : List (Nat × Nat × AV) → Option (List AV)
  | [] => some cs
  | (off, sz, v) :: rest => if v.cells.length = sz then (setR cs off v.cells).bind (fillA · rest) else none

def evFadr (off : Nat) : AV → Option AV
  | .ptr id o => some (.ptr id (o + off))
  | .ept c sz xs i o => some (.ept c sz xs i (o + off))
  | _ => none

def evIadr (sz : Nat) : AV → AV → Option AV
  | .sl c s xs, .int _ n => if 0 ≤ n ∧ n < xs.length ∧ s = sz then some (.ept c s xs n.toNat 0) else none
  | _, _ => none

def evIdx : AV → AV → Option AV
  | .str s, .int _ n => if 0 ≤ n then (s.data.toList[n.toNat]?).map fun b => .int .u8 b.toNat else none
  | _, _ => none

def evLen : Bool → AV → Option AV
  | true, .str s => some (.int .i64 s.size)
  | false, .sl _ _ xs => some (.int .i64 xs.length)
  | _, _ => none

def mnmx2 (mx : Bool) : AV → AV → Option AV
  | .int k x, .int _ y => some (.int k (if mx then (if x < y then y else x) else (if y < x then y else x)))
  | _, _ => none

def evMnmx (mx : Bool) : List AV → Option AV
  | [] => none
  | x :: xs => xs.foldlM (mnmx2 mx) x

def strOf : List AV → Option (List UInt8)
  | [] => some []
  | .int .u8 n :: xs => (strOf xs).map (UInt8.ofNat n.toNat :: ·)
  | _ :: _ => none

def evAssert (t : TypeId) (ok : Bool) (z : AV) : AV → Option AV
  | .ifc u v => if u = t then some (if ok then .tup [v, .bool true] else v) else if ok then some (.tup [z, .bool false]) else none
  | .nili => if ok then some (.tup [z, .bool false]) else none
  | _ => none

def bytesAV (s : ByteArray) : List AV := s.data.toList.map fun b => .int .u8 b.toNat

/-- What is appended. -/
def srcOf (gens : Nat → Nat) (sz : Nat) : AV → Option (List AV)
  | .sl c s ys => if okc gens c ∧ (s = sz ∨ ys = []) then some ys else none
  | .str s => if sz = 1 then some (bytesAV s) else none
  | _ => none

def appGens (gens : Nat → Nat) : Cap → Nat → Nat
  | .fam τ g _ => upd gens τ (g + 1)
  | _ => gens

/-- May this be appended to? -/
def appOk (gens : Nat → Nat) : Cap → Bool
  | .fam τ g _ => gens τ == g
  | .nil => true
  | .ro => false

def evLoad (st : St) (ag : Bool) (sz : Nat) : AV → Option AV
  | .ptr id off => (st.boxes id).bind fun cs => getR ag cs off sz
  | .ept c s xs i off => if okc st.gens c ∧ off + sz ≤ s then (xs[i]?).bind fun x => getR ag x.cells off sz else none
  | _ => none

def evNext (st : St) : AV → Option (AV × St)
  | .it id => match st.iters id with
    | some (s, p) =>
      if p < s.size then some (.tup [.bool true, .int .i64 p, .int .i32 (Utf8.decode s p).1], { st with iters := upd st.iters id (some (s, p + (Utf8.decode s p).2)) })
      else some (.tup [.bool false], st)
    | none => none
  | _ => none

def recell (x : AV) (cs : List AV) : AV :=
  match x with
  | .agg _ => .agg cs
  | _ => cs.headD .junk

/-- The slice whose header lies there. -/
def plGet (e : Env) (st : St) : Pl → Option AV
  | .slot t => some (e t)
  | .fld a => evLoad st false 1 (a.ev e)

def plSet (e : Env) (st : St) (v : AV) : Pl → Option (Env × St)
  | .slot t => some (upd e t v, st)
  | .fld a => match a.ev e with
    | .ptr id off => (st.boxes id).bind fun cs => (setR cs off [v]).map fun cs' => (e, { st with boxes := upd st.boxes id (some cs') })
    | _ => none

def evStore (e : Env) (st : St) (sz : Nat) (a x : AV) (pl : Option Pl) : Option (Env × St) :=
  if x.cells.length = sz ∧ okCells x = true then
    match a with
    | .ptr id off => (st.boxes id).bind fun cs => (setR cs off x.cells).map fun cs' => (e, { st with boxes := upd st.boxes id (some cs') })
    | .ept (.fam τ g o) s _ i off =>
      match pl with
      | none => none
      | some pl => match plGet e st pl with
        | some (.sl (.fam τ' g' o') s' xs) =>
          if τ' = τ ∧ g' = g ∧ o' = o ∧ s' = s ∧ st.gens τ = g then
            (xs[i]?).bind fun old => (setR old.cells off x.cells).bind fun cs =>
              plSet e { st with gens := upd st.gens τ (g + 1) } (.sl (.fam τ (g + 1) o) s (xs.set i (recell old cs))) pl
          else none
        | _ => none
    | _ => none
  else none

def evClear (e : Env) (st : St) (sz : Nat) (z : AV) (x : AV) (pl : Pl) : Option (Env × St) :=
  match x with
  | .sl _ _ [] => some (e, st)
  | .sl (.fam τ g o) s ys =>
    match plGet e st pl with
    | some (.sl (.fam τ' g' o') s' xs) =>
      if τ' = τ ∧ g' = g ∧ o' ≤ o ∧ s' = s ∧ s = sz ∧ st.gens τ = g ∧ o - o' + ys.length ≤ xs.length then
        plSet e { st with gens := upd st.gens τ (g + 1) } (.sl (.fam τ (g + 1) o') s (xs.take (o - o') ++ (List.replicate ys.length z ++ xs.drop (o - o' + ys.length)))) pl
      else none
    | _ => none
  | _ => none

/-- One operation: what it yields, the slots, the state. -/
def evOp (call : Nat → List AV → St → Option (AV × St)) (base : Nat) (e : Env) (st : St) : MOp → Option (AV × Env × St)
  | .mv x => some (x.ev e, e, st)
  | .pick c a b => match c.ev e with
    | .bool t => some (if t then a.ev e else b.ev e, e, st)
    | _ => none
  | .alloc k _ => some (.ptr (base + k) 0, e, st)
  | .box k x => some (.ptr (base + k) 0, e, { st with boxes := upd st.boxes (base + k) (some (x.ev e).cells) })
  | .build z ps => (fillA z (ps.map fun p => (p.1, p.2.1, p.2.2.ev e))).map fun cs => (.agg cs, e, st)
  | .mkSl k sz ps => if (ps.all fun p => (p.ev e).cells.length = sz && okCells (p.ev e)) = true then some (.sl (.fam (base + k) (st.gens (base + k)) 0) sz (ps.map fun p => p.ev e), e, st) else none
  | .load ag sz a => (evLoad st ag sz (a.ev e)).map fun v => (v, e, st)
  | .store sz a x pl => (evStore e st sz (a.ev e) (x.ev e) pl).map fun r => (.junk, r)
  | .nilck x => match x.ev e with
    | .ptr id o => some (.ptr id o, e, st)
    | .ept c s xs i o => some (.ept c s xs i o, e, st)
    | .fn f cs => some (.fn f cs, e, st)
    | .ifc t v => some (.ifc t v, e, st)
    | _ => none
  | .bin op x y => (evBin op (x.ev e) (y.ev e)).map fun v => (v, e, st)
  | .eqB n x y => (evEqB n (x.ev e) (y.ev e)).map fun v => (v, e, st)
  | .eqP n x y => (evEqP n (x.ev e) (y.ev e)).map fun v => (v, e, st)
  | .eqI n x y => (evEqI n (x.ev e) (y.ev e)).map fun v => (v, e, st)
  | .eqA n m x y => (evEqA n m (x.ev e) (y.ev e)).map fun v => (v, e, st)
  | .un op x => (evUn op (x.ev e)).map fun v => (v, e, st)
  | .convI k x => match x.ev e with
    | .int _ n => some (.int k (k.wrap n), e, st)
    | _ => none
  | .convS k lim x => match x.ev e with
    | .str s => if s.size ≤ lim then some (.sl (.fam (base + k) (st.gens (base + k)) 0) 1 (bytesAV s), e, st) else none
    | _ => none
  | .convB x => match x.ev e with
    | .sl c s xs => if okc st.gens c ∧ (s = 1 ∨ xs = []) then (strOf xs).map fun l => (.str ⟨l.toArray⟩, e, st) else none
    | _ => none
  | .strS x => match x.ev e with
    | .str s => some (.str s, e, st)
    | _ => none
  | .mkIfc t x => some (.ifc t (x.ev e), e, st)
  | .mkFn f cs => some (.fn f (cs.map (·.ev e)), e, st)
  | .slice k sz x lo hi mx => (evSlice (base + k) (st.gens (base + k)) sz (x.ev e) (lo.map (·.ev e)) (hi.map (·.ev e)) (mx.map (·.ev e))).map fun v => (v, e, st)
  | .sliceS x lo hi => (evSliceS (x.ev e) (lo.map (·.ev e)) (hi.map (·.ev e))).map fun v => (v, e, st)
  | .fadr off x => (evFadr off (x.ev e)).map fun v => (v, e, st)
  | .field ag off sz x => match x.ev e with
    | .agg cs => (getR ag cs off sz).map fun v => (v, e, st)
    | _ => none
  | .iadr sz x i => (evIadr sz (x.ev e) (i.ev e)).map fun v => (v, e, st)
  | .idx x i => (evIdx (x.ev e) (i.ev e)).map fun v => (v, e, st)
  | .range k x => match x.ev e with
    | .str s => some (.it (base + k), e, { st with iters := upd st.iters (base + k) (some (s, 0)) })
    | _ => none
  | .next x => (evNext st (x.ev e)).map fun r => (r.1, e, r.2)
  | .assert t ok z x => (evAssert t ok z (x.ev e)).map fun v => (v, e, st)
  | .ext i x => match x.ev e with
    | .tup vs => (vs[i]?).map fun v => (v, e, st)
    | _ => none
  | .call f xs => (call f (xs.map (·.ev e)) st).map fun r => (r.1, e, r.2)
  | .callV f xs => match f.ev e with
    | .fn g cs => (call g (xs.map (·.ev e) ++ cs) st).map fun r => (r.1, e, r.2)
    | _ => none
  | .len b x => (evLen b (x.ev e)).map fun v => (v, e, st)
  | .append k sz lim x y => match x.ev e with
    | .sl c s xs => (srcOf st.gens sz (y.ev e)).bind fun ys =>
      if appOk st.gens c ∧ (s = sz ∨ c = .nil) ∧ xs.length + ys.length ≤ lim then
        some (.sl (.fam (base + k) (appGens st.gens c (base + k)) 0) sz (xs ++ ys), e, { st with gens := appGens st.gens c })
      else none
    | _ => none
  | .mnmx mx xs => (evMnmx mx (xs.map (·.ev e))).map fun v => (v, e, st)
  | .clear sz z x pl => (evClear e st sz z (x.ev e) pl).map fun r => (.junk, r)

def putD (e : Env) (v : AV) : Option Nat → Env
  | some d => upd e d v
  | none => e

/-- Is the operation performed? -/
def gv (e : Env) : Option (Nat × Bool) → Option Bool
  | none => some true
  | some (t, b) => match e t with
    | .bool c => some (c == b)
    | .junk => some false
    | _ => none

def evIs (call : Nat → List AV → St → Option (AV × St)) (base : Nat) : List MI → Env → St → Option (Env × St)
  | [], e, st => some (e, st)
  | i :: is, e, st =>
    match gv e i.guard with
    | some true => (evOp call base e st i.op).bind fun r => evIs call base is (putD r.2.1 r.1 i.dst) r.2.2
    | some false => evIs call base is (putD e .junk i.dst) st
    | none => none

/-- The region's variables, as they are before the first store. -/
def hoist (base : Nat) : List MI → St → St
  | [], st => st
  | ⟨_, _, .alloc k z, _, _⟩ :: is, st => hoist base is { st with boxes := upd st.boxes (base + k) (some z) }
  | _ :: is, st => hoist base is st

/-! ## a region whose order is drawn -/

/-- Does it change the state? -/
def MOp.mut : MOp → Bool
  | .store .. | .call .. | .callV .. | .append .. | .clear .. | .box .. | .range .. | .next .. => true
  | _ => false

/-- The slots that are told anew. -/
def Pl.slots : Pl → List Nat
  | .slot t => [t]
  | .fld _ => []

def MOp.slots : MOp → List Nat
  | .store _ _ _ (some pl) => pl.slots
  | .clear _ _ _ pl => pl.slots
  | _ => []

def Opd.tmps : Opd → List Nat
  | .t n => [n]
  | .c _ => []

def Pl.opds : Pl → List Opd
  | .slot t => [.t t]
  | .fld a => [a]

/-- What it looks at. -/
def MOp.opds : MOp → List Opd
  | .mv x | .box _ x | .load _ _ x | .nilck x | .un _ x | .convI _ x | .convS _ _ x | .convB x | .strS x | .mkIfc _ x | .fadr _ x | .field _ _ _ x | .range _ x | .next x
  | .assert _ _ _ x | .ext _ x | .len _ x => [x]
  | .pick c a b => [c, a, b]
  | .alloc _ _ => []
  | .build _ ps => ps.map (·.2.2)
  | .mkSl _ _ ps => ps
  | .store _ a x pl => a :: x :: (pl.toList.flatMap Pl.opds)
  | .bin _ x y | .eqB _ x y | .eqP _ x y | .eqI _ x y | .eqA _ _ x y | .iadr _ x y | .idx x y => [x, y]
  | .mkFn _ cs => cs
  | .slice _ _ x lo hi mx => x :: (lo.toList ++ (hi.toList ++ mx.toList))
  | .sliceS x lo hi => x :: (lo.toList ++ hi.toList)
  | .call _ xs => xs
  | .callV f xs => f :: xs
  | .append _ _ _ x y => [x, y]
  | .mnmx _ xs => xs
  | .clear _ _ x pl => x :: pl.opds

/-- May its value depend on the state? -/
def MOp.lax : MOp → Bool
  | .load .. | .convB .. | .mkSl .. | .convS .. | .slice .. => false
  | m => !m.mut

def MI.reads (i : MI) : List Nat := i.op.opds.flatMap Opd.tmps ++ (i.guard.toList.map (·.1))

def MI.writes (i : MI) : List Nat := i.dst.toList ++ i.op.slots

def nmut : List MI → Nat
  | [] => 0
  | i :: is => (if i.op.mut = true then 1 else 0) + nmut is

mutual
def AV.beq : AV → AV → Bool
  | .junk, .junk => true
  | .bool a, .bool b => a == b
  | .int k n, .int k' m => decide (k = k') && n == m
  | .str a, .str b => a.data == b.data
  | .sl c s xs, .sl c' s' ys => decide (c = c') && s == s' && AV.beqs xs ys
  | .agg xs, .agg ys => AV.beqs xs ys
  | .ptr a b, .ptr a' b' => a == a' && b == b'
  | .nilp, .nilp => true
  | .ept c s xs i o, .ept c' s' ys i' o' => decide (c = c') && s == s' && AV.beqs xs ys && i == i' && o == o'
  | .fn f xs, .fn g ys => f == g && AV.beqs xs ys
  | .nilf, .nilf => true
  | .ifc t x, .ifc u y => t == u && AV.beq x y
  | .nili, .nili => true
  | .tup xs, .tup ys => AV.beqs xs ys
  | .it a, .it b => a == b
  | _, _ => false
def AV.beqs : List AV → List AV → Bool
  | [], [] => true
  | x :: xs, y :: ys => AV.beq x y && AV.beqs xs ys
  | _, _ => false
end

def sameV (v : AV) : Option (AV × Env × St) → Bool
  | some r => AV.beq r.1 v
  | none => false

/-- In text order; what may be read at other stages is looked at there too. -/
def evD (call : Nat → List AV → St → Option (AV × St)) (base : Nat) : List MI → List St → Env → St → Option (Env × St × List St)
  | [], _, e, st => some (e, st, [])
  | i :: is, ps, e, st =>
    match gv e i.guard with
    | some true => (evOp call base e st i.op).bind fun r =>
      if i.op.mut = true then (evD call base is (st :: ps) (putD r.2.1 r.1 i.dst) r.2.2).map fun q => (q.1, q.2.1, r.2.2 :: q.2.2)
      else (evD call base is ps (putD r.2.1 r.1 i.dst) r.2.2).bind fun q =>
        if (ps.take i.back).all (fun s => sameV r.1 (evOp call base e s i.op)) = true ∧ (q.2.2.take i.fwd).all (fun s => sameV r.1 (evOp call base e s i.op)) = true then some q else none
    | some false =>
      if i.op.mut = true then (evD call base is (st :: ps) (putD e .junk i.dst) st).map fun q => (q.1, q.2.1, st :: q.2.2)
      else evD call base is ps (putD e .junk i.dst) st
    | none => none

inductive X where
  | normal
  | exit (id : Nat)
  | ret
  deriving DecidableEq

def loopN (f : Env → St → Option (X × Env × St)) : Nat → Env → St → Option (X × Env × St)
  | 0, _, _ => none
  | n + 1, e, st => (f e st).bind fun r => match r.1 with
    | .normal => loopN f n r.2.1 r.2.2
    | _ => some r

def evC (call : Nat → List AV → St → Option (AV × St)) (k : Nat) : MC → Env → St → Option (X × Env × St)
  | .skip, e, st => some (.normal, e, st)
  | .reg n is, e, st => (evIs call st.next is e (hoist st.next is { st with next := st.next + n })).map fun r => (.normal, r.1, r.2)
  | .dreg n is, e, st => (evD call st.next is [] e (hoist st.next is { st with next := st.next + n })).map fun r => (.normal, r.1, r.2.1)
  | .seq a b, e, st => (evC call k a e st).bind fun r => match r.1 with
    | .normal => evC call k b r.2.1 r.2.2
    | _ => some r
  | .cond c a b, e, st => match c.ev e with
    | .bool true => evC call k a e st
    | .bool false => evC call k b e st
    | _ => none
  | .block id c, e, st => (evC call k c e st).map fun r => match r.1 with
    | .exit id' => (if id' = id then .normal else .exit id', r.2)
    | x => (x, r.2)
  | .loop c, e, st => loopN (evC call k c) k e st
  | .exit id, e, st => some (.exit id, e, st)
  | .ret, e, st => some (.ret, e, st)

def evR (e : Env) (st : St) : MR → Option AV
  | .tmp t => some (e t)
  | .cell a ag sz => evLoad st ag sz (e a)

def evRs (e : Env) (st : St) : List MR → Option (List AV)
  | [] => some []
  | r :: rs => (evR e st r).bind fun v => (evRs e st rs).map fun vs => v :: vs

def resOf : List AV → AV
  | [v] => v
  | vs => .tup vs

def env0 (args : List AV) : Env := fun i => (args[i]?).getD .junk

def evF (prim : Nat → Option (List AV → St → Option (AV × St))) (F : Nat → Option MF) : Nat → Nat → List AV → St → Option (AV × St)
  | 0, _, _, _ => none
  | k + 1, f, args, st =>
    match prim f with
    | some p => p args st
    | none => match F f with
      | none => none
      | some mf => if args.length ≤ mf.nt then (evC (evF prim F k) k mf.body (env0 args) st).bind fun r => match r.1 with
        | .exit _ => none
        | _ => (evRs r.2.1 r.2.2 mf.res).map fun vs => (resOf vs, r.2.2)
        else none

end Go.Ev
