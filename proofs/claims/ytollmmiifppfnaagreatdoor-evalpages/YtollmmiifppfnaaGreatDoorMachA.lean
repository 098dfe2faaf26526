/- A part of the proof: the abstract machine and what it shows of the program. -/
import Derived.Orders
import Derived.Laws.OwnMore
import Derived.Laws.Strings
import Derived.Laws.StructEq
import Derived.Laws.Unary

/- The abstract machine: values, objects, and the step of one operation, as a plain function. -/
set_option linter.unusedVariables false
set_option linter.unusedSimpArgs false
namespace Go.Am

/-- A value of the abstract machine. -/
inductive AV where
  | undef
  | bool (b : Bool)
  | int (k : IntKind) (n : Int)
  | str (s : List UInt8)
  | agg (cs : List AV)
  | tup (vs : List AV)
  | snap (n : Nat) (cs : List AV)
  | fptr (cs : List AV)
  | nil0
  | ref (id ver off n k : Nat)
  | ptr (id ver off : Nat)
  | nilptr
  | mref (id : Nat)
  | nilmap
  | clo (f : FuncId) (first captured : List AV)
  | nilfn
  | iface (t : TypeId) (v : AV)
  | nilif
  | lit (v : Value)
  deriving Inhabited

/-- What an object holds. -/
inductive OB where
  | dead
  | cells (cs : List AV) (wr : Bool)
  | map (es : List (AV × AV))
  deriving Inhabited

structure AObj where
  ver : Nat
  ob : OB
  deriving Inhabited

abbrev St := List AObj
abbrev Fr := List AV

/-- What is known of a type. -/
structure TI where
  desc : TypeDesc
  size : Nat
  bytes : Nat
  zero : List AV
  flat : Bool := false

def TI.agg (t : TI) : Bool := match t.desc with | .struct _ | .array _ _ => true | _ => false

/-- What is known of the program: types, functions with a body, functions without one. -/
structure Tab where
  ty : TypeId → Option TI
  fn : FuncId → Option Func
  ext : FuncId → Option (List AV → Option AV)
  lits : TypeId → Bool := fun _ => false

def ofConst1 : Value → AV
  | .bool b => .bool b
  | .int k n => .int k n
  | .string s => .str s.data.toList
  | .pointer none => .nilptr
  | .slice none 0 0 => .nil0
  | .map none => .nilmap
  | .nilFunc => .nilfn
  | .nilIface => .nilif
  | _ => .undef

def ofConst : Value → AV
  | .agg cs => .agg (cs.toList.map ofConst1)
  | .bool b => .bool b
  | .int k n => .int k n
  | .string s => .str s.data.toList
  | .pointer none => .nilptr
  | .slice none 0 0 => .nil0
  | .map none => .nilmap
  | .nilFunc => .nilfn
  | .nilIface => .nilif
  | _ => .undef

def ev (fr : Fr) : Operand → AV
  | .tmp t => fr.getD t .undef
  | .const v => ofConst v
  | .global _ => .undef
  | .func f => .clo f [] []

def AV.one : AV → Bool
  | .lit _ | .undef | .agg _ | .tup _ => false
  | _ => true

def AV.cells : AV → Option (List AV)
  | .agg cs => some cs
  | .lit _ | .undef | .tup _ => none
  | v => some [v]

def splice (cs : List AV) (off : Nat) (new : List AV) : List AV := cs.take off ++ new ++ cs.drop (off + new.length)

def rd (σ : St) (id ver off cnt : Nat) : Option (List AV) :=
  match σ[id]? with
  | some ⟨v, .cells cs _⟩ => if v = ver ∧ off + cnt ≤ cs.length then some ((cs.drop off).take cnt) else none
  | _ => none

def wr (σ : St) (id ver off : Nat) (new : List AV) : Option St :=
  match σ[id]? with
  | some ⟨v, .cells cs true⟩ => if v = ver ∧ off + new.length ≤ cs.length ∧ new.all AV.one then some (σ.set id ⟨v, .cells (splice cs off new) true⟩) else none
  | _ => none

/-- The cells behind a pointer. -/
def deref (σ : St) (p : AV) (cnt : Nat) : Option (List AV) :=
  match p with
  | .ptr id ver off => rd σ id ver off cnt
  | .fptr cs => if cnt ≤ cs.length then some (cs.take cnt) else none
  | _ => none

/-- The cells of a slice's elements. -/
def elems (σ : St) (k : Nat) : AV → Option (Nat × List AV)
  | .nil0 => some (0, [])
  | .snap n cs => if cs.length = n * k then some (n, cs) else none
  | .ref id ver off n k' => if n = 0 then some (0, []) else if k' = k then (rd σ id ver off (n * k)).map fun cs => (n, cs) else none
  | _ => none

def asI : AV → Option Int
  | .int _ n => some n
  | _ => none

def ofB (b : Bool) : Option AV := some (.bool b)

def intBin (op : BinOp) (k : IntKind) (a b : Int) : Option AV :=
  match op with
  | .add => some (.int k (k.wrap (a + b)))
  | .sub => some (.int k (k.wrap (a - b)))
  | .mul => some (.int k (k.wrap (a * b)))
  | .quo => if b = 0 then none else some (.int k (k.wrap (a.tdiv b)))
  | .rem => if b = 0 then none else some (.int k (a.tmod b))
  | .and => some (.int k (k.wrap ((BitVec.ofInt k.bits a &&& BitVec.ofInt k.bits b).toNat)))
  | .or => some (.int k (k.wrap ((BitVec.ofInt k.bits a ||| BitVec.ofInt k.bits b).toNat)))
  | .xor => some (.int k (k.wrap ((BitVec.ofInt k.bits a ^^^ BitVec.ofInt k.bits b).toNat)))
  | .andNot => some (.int k (k.wrap ((BitVec.ofInt k.bits a &&& ~~~ BitVec.ofInt k.bits b).toNat)))
  | .eql => ofB (a == b)
  | .neq => ofB (a != b)
  | .lss => ofB (decide (a < b))
  | .leq => ofB (decide (a ≤ b))
  | .gtr => ofB (decide (a > b))
  | .geq => ofB (decide (a ≥ b))
  | _ => none

def strBin (op : BinOp) (a b : List UInt8) : Option AV :=
  match op with
  | .add => if a.length + b.length ≤ 9223372036854775807 then some (.str (a ++ b)) else none
  | .eql => ofB (a == b)
  | .neq => ofB (!(a == b))
  | .lss => ofB (Op.bytesLess a b)
  | .leq => ofB (Op.bytesLess a b || a == b)
  | .gtr => ofB (!(Op.bytesLess a b || a == b))
  | .geq => ofB (!Op.bytesLess a b)
  | _ => none

/-- Are two plain cells equal? -/
def eqCell : AV → AV → Option Bool
  | .bool a, .bool b => some (a == b)
  | .int k a, .int k' b => if k = k' then some (a == b) else none
  | .str a, .str b => some (a == b)
  | _, _ => none

/-- Kinds of plain cells. -/
def AV.tag : AV → Nat
  | .bool _ => 1
  | .int .. => 2
  | .str _ => 3
  | _ => 0

def tags : List AV → List AV → Bool
  | [], [] => true
  | a :: l, b :: m => Nat.beq a.tag b.tag && tags l m
  | _, _ => false

def eqCells : List AV → List AV → Option Bool
  | [], [] => some true
  | a :: as, b :: bs => (eqCell a b).bind fun e => (eqCells as bs).map fun r => e && r
  | _, _ => none

def binop (T : Tab) (op : BinOp) (t : TypeId) (x y : AV) : Option AV :=
  match op, x, y with
  | .shl, .int k a, .int _ b => if b < 0 then none else some (.int k (k.wrap (a * 2 ^ (min b.toNat k.bits))))
  | .shr, .int k a, .int _ b => if b < 0 then none else some (.int k (a.fdiv (2 ^ (min b.toNat k.bits))))
  | _, .int k a, .int k' b => if k = k' then intBin op k a b else none
  | _, .str a, .str b => strBin op a b
  | .eql, .bool a, .bool b => match T.ty t with | some ⟨.bool, _, _, _, _⟩ => ofB (a == b) | _ => none
  | .neq, .bool a, .bool b => match T.ty t with | some ⟨.bool, _, _, _, _⟩ => ofB (!(a == b)) | _ => none
  | .eql, .agg a, .agg b => match T.ty t with | some i => if i.flat ∧ a.length = i.size ∧ b.length = i.size ∧ tags a i.zero then (eqCells a b).map .bool else none | _ => none
  | .neq, .agg a, .agg b => match T.ty t with | some i => if i.flat ∧ a.length = i.size ∧ b.length = i.size ∧ tags a i.zero then (eqCells a b).map fun e => .bool (!e) else none | _ => none
  | _, _, _ => none

def unop (op : UnOp) (x : AV) : Option AV :=
  match op, x with
  | .neg, .int k n => some (.int k (k.wrap (0 - n)))
  | .xor, .int k n => some (.int k (k.wrap ((BitVec.ofInt k.bits (if k.signed then -1 else k.max) ^^^ BitVec.ofInt k.bits n).toNat)))
  | .not, .bool b => some (.bool (!b))
  | _, _ => none

def field? (T : Tab) (s : TypeId) (f : Nat) : Option (Nat × TI) :=
  match T.ty s with
  | some ⟨.struct fs, _, _, _, _⟩ => match fs[f]? with
    | some fd => (T.ty fd.type).map fun i => (fd.offset, i)
    | none => none
  | _ => none

/-- Puts parts into cells. -/
def fillA (place : Nat → Option (Nat × Nat)) (cells : List AV) : List (Nat × AV) → Option (List AV)
  | [] => some cells
  | (i, v) :: rest =>
    match place i, v.cells with
    | some (off, size), some cs => if cs.length = size ∧ off + size ≤ cells.length ∧ cs.all AV.one then fillA place (splice cells off cs) rest else none
    | _, _ => none

def elemTI (T : Tab) (t : TypeId) : Option TI :=
  match T.ty t with
  | some ⟨.slice e, _, _, _, _⟩ => T.ty e
  | _ => none

def chunkLoad (i : TI) (cs : List AV) : Option AV :=
  if i.agg then some (.agg cs) else match cs with | [v] => if v.one then some v else none | _ => none

/-- A bound of a slice expression: inside 0 .. y. -/
def bnd (v : Option AV) (dflt y : Nat) : Option Nat :=
  match v with
  | none => some dflt
  | some a => match a with | .int _ i => if 0 ≤ i ∧ i ≤ y then some i.toNat else none | _ => none

def sLen (k : Nat) : AV → Option Nat
  | .nil0 => some 0
  | .snap n cs => if cs.length = n * k then some n else none
  | .ref _ _ _ n k' => if k' = k then some n else none
  | _ => none

def sCut (k l h : Nat) : AV → Option AV
  | .nil0 => some .nil0
  | .snap _ cs => some (.snap (h - l) ((cs.drop (l * k)).take ((h - l) * k)))
  | .ref id ver off _ _ => if h = l then some (.snap 0 []) else some (.ref id ver (off + l * k) (h - l) k)
  | _ => none

def sliceOp (T : Tab) (t : TypeId) (x : AV) (lo hi mx : Option AV) : Option AV :=
  match T.ty t with
  | some ⟨.string, _, _, _, _⟩ =>
    match x, mx with
    | .str s, none => (bnd hi s.length s.length).bind fun h => (bnd lo 0 h).bind fun l => some (.str ((s.take h).drop l))
    | _, _ => none
  | some ⟨.slice e, _, _, _, _⟩ => (T.ty e).bind fun i => (sLen i.size x).bind fun n =>
    match mx with
    | none => (bnd hi n n).bind fun h => (bnd lo 0 h).bind fun l => sCut i.size l h x
    | some m => (bnd (some m) 0 n).bind fun m => (bnd hi 0 m).bind fun h => (bnd lo 0 h).bind fun l => if hi.isSome ∧ m = l then some .nil0 else none
  | _ => none

def index1 (T : Tab) (t : TypeId) (x ix : AV) : Option AV :=
  match T.ty t, x, ix with
  | some ⟨.array len e, _, _, _, _⟩, .agg cs, .int _ i => do
    let ti ← T.ty e
    if 0 ≤ i ∧ i < len ∧ (i.toNat + 1) * ti.size ≤ cs.length then chunkLoad ti ((cs.drop (i.toNat * ti.size)).take ti.size) else none
  | some ⟨.string, _, _, _, _⟩, .str s, .int _ i => if 0 ≤ i then (s[i.toNat]?).map fun b => .int .u8 b.toNat else none
  | _, _, _ => none

def indexA (T : Tab) (t : TypeId) (x ix : AV) : Option AV :=
  match T.ty t, ix with
  | some ⟨.array len e, _, _, _, _⟩, .int _ i => do
    let ti ← T.ty e
    if 0 ≤ i ∧ i < len then
      match x with
      | .ptr id ver off => some (.ptr id ver (off + i.toNat * ti.size))
      | .fptr cs => some (.fptr (cs.drop (i.toNat * ti.size)))
      | _ => none
    else none
  | some ⟨.slice e, _, _, _, _⟩, .int _ i => do
    let ti ← T.ty e
    match x with
    | .ref id ver off n k => if 0 ≤ i ∧ i < n ∧ k = ti.size then some (.ptr id ver (off + i.toNat * k)) else none
    | .snap n cs => if 0 ≤ i ∧ i < n ∧ cs.length = n * ti.size then some (.fptr ((cs.drop (i.toNat * ti.size)).take ti.size)) else none
    | _ => none
  | _, _ => none

def room47 (n bytes : Nat) : Bool := n ≤ 9223372036854775807 && n * bytes ≤ 140737488355328

/-- The cells that append adds: of a slice, or of a string. -/
def news (σ : St) (k : Nat) : AV → Option (Nat × List AV)
  | .str s => if k = 1 then some (s.length, s.map fun b => .int .u8 b.toNat) else none
  | v => elems σ k v

def append1 (T : Tab) (t : TypeId) (σ : St) (s x : AV) : Option (AV × St) :=
  (elemTI T t).bind fun i => (news σ i.size x).bind fun r =>
  if i.size = 0 ∨ i.zero.length ≠ i.size ∨ r.2.all AV.one = false then none else
  match s with
  | .nil0 => if r.1 = 0 then some (.nil0, σ) else if room47 r.1 i.bytes then some (.ref σ.length 0 0 r.1 i.size, σ ++ [⟨0, .cells r.2 true⟩]) else none
  | .ref id ver off n k =>
    if k = i.size then
      if r.1 = 0 then some (.ref id ver off n k, σ) else
      match σ[id]? with
      | some ⟨v, .cells cs true⟩ =>
        if v = ver ∧ off + n * k = cs.length ∧ room47 (n + r.1) i.bytes then
          some (.ref id (ver + 1) 0 (n + r.1) k, σ.set id ⟨ver + 1, .cells (cs.drop off ++ r.2) true⟩)
        else none
      | _ => none
    else none
  | _ => none

def toByte : AV → Option UInt8
  | .int .u8 n => if 0 ≤ n ∧ n < 256 then some (UInt8.ofNat n.toNat) else none
  | _ => none

def isU8 (T : Tab) (e : TypeId) : Bool := match T.ty e with | some ⟨.int .u8, _, _, _, _⟩ => true | _ => false

def convertA (T : Tab) (src dst : TypeId) (σ : St) (x : AV) : Option (AV × St) :=
  (T.ty src).bind fun a => (T.ty dst).bind fun b =>
    match a.desc, b.desc, x with
    | .int _, .int k, .int _ n => some (.int k (k.wrap n), σ)
    | .string, .string, .str s => some (.str s, σ)
    | .string, .slice e, .str s => if isU8 T e && !(T.lits src && T.lits dst) then some (.ref σ.length 0 0 s.length 1, σ ++ [⟨0, .cells (s.map fun b => .int .u8 b.toNat) true⟩]) else none
    | .slice e, .string, x => if isU8 T e && !(T.lits src && T.lits dst) then (elems σ 1 x).bind fun r => (r.2.mapM toByte).map fun bs => (.str bs, σ) else none
    | _, _, _ => none

def keyEq : AV → AV → Option Bool
  | .agg a, .agg b => eqCells a b
  | a, b => eqCell a b

/-- Where a key stands among a map's entries. -/
def findK (k : AV) : List (AV × AV) → Nat → Option (Option (Nat × AV))
  | [], _ => some none
  | e :: es, i => match keyEq k e.1 with
    | some true => some (some (i, e.2))
    | some false => findK k es (i + 1)
    | none => none

/-- Is a value a key of this type? -/
def keyOk (i : TI) : AV → Bool
  | .int _ _ => (match i.desc with | .int _ => true | _ => false)
  | .str _ => (match i.desc with | .string => true | _ => false)
  | .agg cs => i.flat && cs.length == i.size && tags cs i.zero
  | _ => false

def mapTypes (T : Tab) (t : TypeId) : Option (TI × TI) :=
  match T.ty t with
  | some ⟨.map k e, _, _, _, _⟩ => (T.ty k).bind fun a => (T.ty e).map fun b => (a, b)
  | _ => none

def asVal (i : TI) (cs : List AV) : Option AV := chunkLoad i cs

def mapEs (σ : St) : AV → Option (List (AV × AV))
  | .nilmap => some []
  | .mref id => match σ[id]? with | some ⟨_, .map es⟩ => some es | _ => none
  | _ => none

def lookupA (T : Tab) (t : TypeId) (σ : St) (m k : AV) (ok : Bool) : Option AV :=
  (mapTypes T t).bind fun p => if keyOk p.1 k then (mapEs σ m).bind fun es => (findK k es 0).bind fun r => match r with
    | some q => some (if ok then .tup [q.2, .bool true] else q.2)
    | none => (asVal p.2 p.2.zero).map fun z => if ok then .tup [z, .bool false] else z
  else none

def updA (T : Tab) (t : TypeId) (σ : St) (m k v : AV) : Option St :=
  (mapTypes T t).bind fun p => if keyOk p.1 k then match m with
    | .mref id => match σ[id]? with
      | some ⟨ver, .map es⟩ => (findK k es 0).map fun r => match r with
        | some q => σ.set id ⟨ver, .map (es.set q.1 (k, v))⟩
        | none => σ.set id ⟨ver, .map (es ++ [(k, v)])⟩
      | _ => none
    | _ => none
  else none

def delA (T : Tab) (t : TypeId) (σ : St) (m k : AV) : Option St :=
  (mapTypes T t).bind fun p => if keyOk p.1 k then match m with
    | .nilmap => some σ
    | .mref id => match σ[id]? with
      | some ⟨ver, .map es⟩ => (findK k es 0).map fun r => match r with
        | some q => σ.set id ⟨ver, .map (es.eraseIdx q.1)⟩
        | none => σ.set id ⟨ver, .map es⟩
      | _ => none
    | _ => none
  else none

/-- What an operation comes to. -/
inductive AStep where
  | val (v : AV) (σ : St)
  | skip (σ : St)
  | call (f : FuncId) (args : List AV)

def repl (n : Nat) (z : List AV) : List AV := (List.replicate n z).flatten

def isStr : AV → Bool
  | .str _ => true
  | _ => false

def appendB (T : Tab) (t tx : TypeId) (σ : St) (s x : AV) : Option AStep :=
  match T.ty tx with
  | some ⟨.slice _, _, _, _, _⟩ => if isStr x then none else (append1 T t σ s x).map fun r => .val r.1 r.2
  | some ⟨.string, _, _, _, _⟩ => if isStr x then (append1 T t σ s x).map fun r => .val r.1 r.2 else none
  | _ => none

def lenB (T : Tab) (t : TypeId) (σ : St) (x : AV) : Option AStep :=
  match T.ty t, x with
  | some ⟨.string, _, _, _, _⟩, .str s => some (.val (.int .i64 s.length) σ)
  | some ⟨.slice _, _, _, _, _⟩, .nil0 => some (.val (.int .i64 0) σ)
  | some ⟨.slice _, _, _, _, _⟩, .snap n _ => some (.val (.int .i64 n) σ)
  | some ⟨.slice _, _, _, _, _⟩, .ref _ _ _ n _ => some (.val (.int .i64 n) σ)
  | some ⟨.map _ _, _, _, _, _⟩, .nilmap => some (.val (.int .i64 0) σ)
  | some ⟨.map _ _, _, _, _, _⟩, .mref id => (match σ[id]? with | some ⟨_, .map es⟩ => some (.val (.int .i64 es.length) σ) | _ => none)
  | _, _ => none

def clearB (T : Tab) (t : TypeId) (σ : St) (x : AV) : Option AStep :=
  (elemTI T t).bind fun i => match x with
  | .nil0 => some (.val (.tup []) σ)
  | .snap 0 _ => some (.val (.tup []) σ)
  | .ref id ver off n k => if k = i.size ∧ i.zero.length = k ∧ n ≠ 0 then (wr σ id ver off (repl n i.zero)).map fun σ' => .val (.tup []) σ' else none
  | _ => none

def copyB (T : Tab) (t : TypeId) (σ : St) (d s : AV) : Option AStep :=
  (elemTI T t).bind fun i => (elems σ i.size s).bind fun r => match d with
  | .nil0 => some (.val (.int .i64 0) σ)
  | .ref id ver off n k =>
    if k = i.size then (wr σ id ver off (r.2.take (min r.1 n * k))).map fun σ' => .val (.int .i64 (min r.1 n : Nat)) σ' else none
  | _ => none

def builtinA (T : Tab) (b : Builtin) (ats : List TypeId) (σ : St) (args : List AV) : Option AStep :=
  match b, ats, args with
  | .len, [t], [x] => lenB T t σ x
  | .append, [t, tx], [s, x] => appendB T t tx σ s x
  | .max, _, [.int k a, .int _ b] => some (.val (.int k (if b > a then b else a)) σ)
  | .min, _, [.int k a, .int _ b] => some (.val (.int k (if b < a then b else a)) σ)
  | .delete, [t, _], [m, k] => (delA T t σ m k).map fun σ' => .val (.tup []) σ'
  | .clear, [t], [x] => clearB T t σ x
  | .copy, [t, _], [d, s] => copyB T t σ d s
  | _, _, _ => none

def callA (T : Tab) (f : AV) (σ : St) (args : List AV) : Option AStep :=
  match f with
  | .clo f first cap =>
    match T.fn f with
    | some _ => some (.call f (first ++ args ++ cap))
    | none => (T.ext f).bind fun g => (g (first ++ args ++ cap)).map fun v => .val v σ
  | _ => none

def val (σ : St) (v : Option AV) : Option AStep := v.map fun v => .val v σ

/-- Cells without references to objects. -/
def AV.closed1 : AV → Bool
  | .undef | .bool _ | .int .. | .str _ | .snap .. | .fptr _ | .nil0 | .nilptr | .nilmap | .nilfn | .nilif => true
  | .clo _ [] [] => true
  | _ => false

/-- A slice literal: an object, or (by the table) a slice that is not written. -/
def litA (lit : Bool) (len k : Nat) (cs : List AV) (σ : St) : Option AStep :=
  if lit then (if cs.all AV.closed1 then some (.val (if len = 0 then .nil0 else .snap len cs) σ) else none)
  else some (.val (.ref σ.length 0 0 len k) (σ ++ [⟨0, .cells cs true⟩]))

def nilSlice : Operand → Bool
  | .const (.slice none 0 0) => true
  | _ => false

/-- A slice held against nil. -/
def nilCmp (T : Tab) (op : BinOp) (t : TypeId) (a : AV) : Option AV :=
  match T.ty t with
  | some ⟨.slice _, _, _, _, _⟩ => match op, a with
    | .eql, .ref .. => some (.bool false)
    | .neq, .ref .. => some (.bool true)
    | .eql, .snap (_ + 1) _ => some (.bool false)
    | .neq, .snap (_ + 1) _ => some (.bool true)
    | .eql, .lit (.slice none _ _) => some (.bool true)
    | .neq, .lit (.slice none _ _) => some (.bool false)
    | _, _ => none
  | _ => none

def binopO (T : Tab) (op : BinOp) (t : TypeId) (y : Operand) (a b : AV) : Option AV := if nilSlice y then nilCmp T op t a else binop T op t a b

def mkIf (t : TypeId) (d : TypeDesc) (v : AV) (σ : St) : Option AStep :=
  match d with
  | .interface _ => none
  | _ => some (.val (.iface t v) σ)

def astep (T : Tab) (o : Oper) (fr : Fr) (σ : St) : Option AStep :=
  match o.op with
  | .move x | .assign x => some (.val (ev fr x) σ)
  | .pick c a b => (match ev fr c with | .bool c => some (.val (if c then ev fr a else ev fr b) σ) | _ => none)
  | .alloc t => (T.ty t).bind fun i => if i.zero.length = i.size then some (.val (.ptr σ.length 0 0) (σ ++ [⟨0, .cells i.zero true⟩])) else none
  | .box t x => (T.ty t).bind fun i => (ev fr x).cells.bind fun cs => if cs.length = i.size ∧ cs.all AV.one then some (.val (.ptr σ.length 0 0) (σ ++ [⟨0, .cells cs true⟩])) else none
  | .build t ps => (T.ty t).bind fun i => match i.desc with
    | .struct fs => (fs.toList.mapM fun fd => (T.ty fd.type).map fun fi => (fd.offset, fi.size)).bind fun pl => (fillA (fun j => pl[j]?) i.zero (ps.toList.map fun p => (p.1, ev fr p.2))).map fun cs => .val (.agg cs) σ
    | .array _ e => (T.ty e).bind fun ei => (fillA (fun j => some (j * ei.size, ei.size)) i.zero (ps.toList.map fun p => (p.1, ev fr p.2))).map fun cs => .val (.agg cs) σ
    | _ => none
  | .buildSlice t len ps => (elemTI T t).bind fun i => if len * i.size ≤ 16777216 ∧ i.zero.length = i.size ∧ len ≤ 9223372036854775807 then
      (fillA (fun j => some (j * i.size, i.size)) (repl len i.zero) (ps.toList.map fun p => (p.1, ev fr p.2))).bind fun cs => litA (T.lits t) len i.size cs σ else none
  | .load t a => (T.ty t).bind fun i => (deref σ (ev fr a) i.size).bind fun cs => val σ (chunkLoad i cs)
  | .store t a x => (T.ty t).bind fun i => match ev fr a with
    | .ptr id ver off => (ev fr x).cells.bind fun cs => if cs.length = i.size then (wr σ id ver off cs).map .skip else none
    | _ => none
  | .nilCheck x => (match ev fr x with
    | .ptr id ver off => some (.val (.ptr id ver off) σ)
    | .fptr cs => some (.val (.fptr cs) σ)
    | .clo f a b => some (.val (.clo f a b) σ)
    | _ => none)
  | .binOp op t x y _ => val σ (binopO T op t y (ev fr x) (ev fr y))
  | .makeInterface t x => (T.ty t).bind fun i => mkIf t i.desc (ev fr x) σ
  | .unOp op _ x => val σ (unop op (ev fr x))
  | .convert s d x => (convertA T s d σ (ev fr x)).map fun r => .val r.1 r.2
  | .makeFunc (.func f) a b => some (.val (.clo f (a.toList.map (ev fr)) (b.toList.map (ev fr))) σ)
  | .makeMap t r => (match T.ty t, r.map (ev fr) with
    | some ⟨.map _ _, _, _, _, _⟩, none => some (.val (.mref σ.length) (σ ++ [⟨0, .map []⟩]))
    | some ⟨.map _ _, _, _, _, _⟩, some (.int _ _) => some (.val (.mref σ.length) (σ ++ [⟨0, .map []⟩]))
    | _, _ => none)
  | .makeSlice t l c => (elemTI T t).bind fun i => match ev fr l, ev fr c with
    | .int _ n, .int _ m => if 0 ≤ n ∧ n ≤ m ∧ i.zero.length = i.size ∧ room47 m.toNat i.bytes then some (.val (.ref σ.length 0 0 n.toNat i.size) (σ ++ [⟨0, .cells (repl n.toNat i.zero) true⟩])) else none
    | _, _ => none
  | .slice t x lo hi mx => val σ (sliceOp T t (ev fr x) (lo.map (ev fr)) (hi.map (ev fr)) (mx.map (ev fr)))
  | .fieldAddr s x f => (field? T s f).bind fun r => if r.2.size = 0 then none else match ev fr x with
    | .ptr id ver off => some (.val (.ptr id ver (off + r.1)) σ)
    | .fptr cs => some (.val (.fptr (cs.drop r.1)) σ)
    | _ => none
  | .field s x f => (field? T s f).bind fun r => match ev fr x with
    | .agg cs => if r.1 + r.2.size ≤ cs.length then val σ (chunkLoad r.2 ((cs.drop r.1).take r.2.size)) else none
    | _ => none
  | .indexAddr t x ix => val σ (indexA T t (ev fr x) (ev fr ix))
  | .index t x ix => val σ (index1 T t (ev fr x) (ev fr ix))
  | .lookup t x ix ok => val σ (lookupA T t σ (ev fr x) (ev fr ix) ok)
  | .mapUpdate t m k x | .insert t m k x => (updA T t σ (ev fr m) (ev fr k) (ev fr x)).map .skip
  | .extract x i => (match ev fr x with | .tup vs => val σ vs[i]? | _ => none)
  | .call c => match c.callee with
    | .builtin b => builtinA T b c.argTypes.toList σ (c.args.toList.map (ev fr))
    | .value f => callA T (ev fr f) σ (c.args.toList.map (ev fr))
    | .invoke _ _ => none
  | _ => none

end Go.Am

/- How the abstract machine's values and objects stand for values and blocks of the model. -/
set_option linter.unusedVariables false
set_option linter.unusedSimpArgs false
namespace Go.Am

/-- Where an object lies: its block, its first cell there, how many cells the block has. -/
structure Pl where
  block : Nat
  base : Nat
  tot : Nat

abbrev Rho := Nat → Pl

def OB.live : OB → Bool
  | .dead => false
  | _ => true

def OB.own : OB → Bool
  | .cells _ true => true
  | .map _ => true
  | _ => false

def OB.isCells : OB → Bool
  | .cells _ _ => true
  | _ => false

def OB.isMap : OB → Bool
  | .map _ => true
  | _ => false

/-- A value without references to objects, and what it stands for. -/
inductive VC (w : World) (M : Nat → Prop) : AV → Value → Prop where
  | undef (v : Value) : VC w M .undef v
  | bool (b : Bool) : VC w M (.bool b) (.bool b)
  | int (k : IntKind) (n : Int) : VC w M (.int k n) (.int k n)
  | str (s : List UInt8) (bs : ByteArray) : bs.data.toList = s → VC w M (.str s) (.string bs)
  | agg (cs : List AV) (vs : Array Value) : vs.size = cs.length → (∀ (i : Nat) c v, cs[i]? = some c → vs[i]? = some v → VC w M c v) → VC w M (.agg cs) (.agg vs)
  | tup (cs : List AV) (vs : Array Value) : vs.size = cs.length → (∀ (i : Nat) c v, cs[i]? = some c → vs[i]? = some v → VC w M c v) → VC w M (.tup cs) (.tuple vs)
  | snap0 (a : Option Addr) (cap : Nat) : VC w M (.snap 0 []) (.slice a 0 cap)
  | snap (n : Nat) (cs : List AV) (a : Addr) (cap : Nat) (vs : Nat → Value) : a.spot = none → a.block < w.heap.size → ¬ M a.block → n ≤ cap → n ≠ 0 →
      (∀ j, j < cs.length → w.cell? (a.add j) = some (vs j)) → (∀ (j : Nat) c, cs[j]? = some c → VC w M c (vs j)) → VC w M (.snap n cs) (.slice (some a) n cap)
  | fptr (cs : List AV) (a : Addr) (vs : Nat → Value) : a.spot = none → a.block < w.heap.size → ¬ M a.block →
      (∀ j, j < cs.length → w.cell? (a.add j) = some (vs j)) → (∀ (j : Nat) c, cs[j]? = some c → VC w M c (vs j)) → VC w M (.fptr cs) (.pointer (some a))
  | nil0 (a : Option Addr) : VC w M .nil0 (.slice a 0 0)
  | nilptr : VC w M .nilptr (.pointer none)
  | nilmap : VC w M .nilmap (.map none)
  | clo (f : FuncId) (a b : List AV) (a' b' : Array Value) : a'.size = a.length → b'.size = b.length →
      (∀ (i : Nat) c v, a[i]? = some c → a'[i]? = some v → VC w M c v) → (∀ (i : Nat) c v, b[i]? = some c → b'[i]? = some v → VC w M c v) →
      VC w M (.clo f a b) (.func (.func f) a' b')
  | nilfn : VC w M .nilfn .nilFunc
  | iface (t : TypeId) (c : AV) (v : Value) : VC w M c v → VC w M (.iface t c) (.iface t v)
  | nilif : VC w M .nilif .nilIface
  | lit (v : Value) : VC w M (.lit v) v

inductive VR (w : World) (M : Nat → Prop) (ρ : Rho) (σ : St) : AV → Value → Prop where
  | undef (v : Value) : VR w M ρ σ .undef v
  | bool (b : Bool) : VR w M ρ σ (.bool b) (.bool b)
  | int (k : IntKind) (n : Int) : VR w M ρ σ (.int k n) (.int k n)
  | str (s : List UInt8) (bs : ByteArray) : bs.data.toList = s → VR w M ρ σ (.str s) (.string bs)
  | agg (cs : List AV) (vs : Array Value) : vs.size = cs.length → (∀ (i : Nat) c v, cs[i]? = some c → vs[i]? = some v → VR w M ρ σ c v) → VR w M ρ σ (.agg cs) (.agg vs)
  | tup (cs : List AV) (vs : Array Value) : vs.size = cs.length → (∀ (i : Nat) c v, cs[i]? = some c → vs[i]? = some v → VR w M ρ σ c v) → VR w M ρ σ (.tup cs) (.tuple vs)
  | snap0 (a : Option Addr) (cap : Nat) : VR w M ρ σ (.snap 0 []) (.slice a 0 cap)
  | snap (n : Nat) (cs : List AV) (a : Addr) (cap : Nat) (vs : Nat → Value) : a.spot = none → a.block < w.heap.size → ¬ M a.block → n ≤ cap → n ≠ 0 →
      (∀ j, j < cs.length → w.cell? (a.add j) = some (vs j)) → (∀ (j : Nat) c, cs[j]? = some c → VC w M c (vs j)) → VR w M ρ σ (.snap n cs) (.slice (some a) n cap)
  | fptr (cs : List AV) (a : Addr) (vs : Nat → Value) : a.spot = none → a.block < w.heap.size → ¬ M a.block →
      (∀ j, j < cs.length → w.cell? (a.add j) = some (vs j)) → (∀ (j : Nat) c, cs[j]? = some c → VC w M c (vs j)) → VR w M ρ σ (.fptr cs) (.pointer (some a))
  | nil0 (a : Option Addr) : VR w M ρ σ .nil0 (.slice a 0 0)
  | ref (id ver off n k : Nat) (v : Value) : (∃ ad cap, v = .slice (some ad) n cap ∧ n ≤ cap) → (∃ o, σ[id]? = some o ∧ ver ≤ o.ver) →
      (∀ o, σ[id]? = some o → o.ver = ver → o.ob.isCells = true →
        ∃ cap, v = .slice (some ⟨(ρ id).block, (ρ id).base + off, none⟩) n cap ∧ n ≤ cap ∧ (ρ id).base + off + cap * k ≤ (ρ id).tot) → VR w M ρ σ (.ref id ver off n k) v
  | ptr (id ver off : Nat) (v : Value) : (∃ ad, v = .pointer (some ad)) → (∃ o, σ[id]? = some o ∧ ver ≤ o.ver) →
      (∀ o, σ[id]? = some o → o.ver = ver → o.ob.isCells = true → v = .pointer (some ⟨(ρ id).block, (ρ id).base + off, none⟩)) → VR w M ρ σ (.ptr id ver off) v
  | nilptr : VR w M ρ σ .nilptr (.pointer none)
  | mref (id : Nat) (v : Value) : (∃ r, v = .map (some r)) → (∃ o, σ[id]? = some o) → (∀ o, σ[id]? = some o → o.ob.isMap = true → v = .map (some (ρ id).block)) → VR w M ρ σ (.mref id) v
  | nilmap : VR w M ρ σ .nilmap (.map none)
  | clo (f : FuncId) (a b : List AV) (a' b' : Array Value) : a'.size = a.length → b'.size = b.length →
      (∀ (i : Nat) c v, a[i]? = some c → a'[i]? = some v → VR w M ρ σ c v) → (∀ (i : Nat) c v, b[i]? = some c → b'[i]? = some v → VR w M ρ σ c v) →
      VR w M ρ σ (.clo f a b) (.func (.func f) a' b')
  | nilfn : VR w M ρ σ .nilfn .nilFunc
  | iface (t : TypeId) (c : AV) (v : Value) : VR w M ρ σ c v → VR w M ρ σ (.iface t c) (.iface t v)
  | nilif : VR w M ρ σ .nilif .nilIface
  | lit (v : Value) : VR w M ρ σ (.lit v) v

theorem VC.lift {w : World} {M : Nat → Prop} {c : AV} {v : Value} (h : VC w M c v) (ρ : Rho) (σ : St) : VR w M ρ σ c v := by
  induction h with
  | undef v => exact .undef v
  | bool b => exact .bool b
  | int k n => exact .int k n
  | str s bs h => exact .str s bs h
  | agg cs vs h _ ih => exact .agg cs vs h ih
  | tup cs vs h _ ih => exact .tup cs vs h ih
  | snap0 a cap => exact .snap0 a cap
  | snap n cs a cap vs hs hb hm hc hn hcl hv ih => exact .snap n cs a cap vs hs hb hm hc hn hcl hv
  | fptr cs a vs hs hb hm hcl hv ih => exact .fptr cs a vs hs hb hm hcl hv
  | nil0 a => exact .nil0 a
  | nilptr => exact .nilptr
  | nilmap => exact .nilmap
  | clo f a b a' b' ha hb _ _ ih1 ih2 => exact .clo f a b a' b' ha hb ih1 ih2
  | nilfn => exact .nilfn
  | iface t c v _ ih => exact .iface t c v ih
  | nilif => exact .nilif
  | lit v => exact .lit v

/-- What cannot be written stays. -/
theorem VC.keep {w w' : World} {M M' : Nat → Prop} (hsize : w.heap.size ≤ w'.heap.size) (hM : ∀ b, b < w.heap.size → ¬ M b → ¬ M' b) (hk : ∀ b, b < w.heap.size → ¬ M b → w'.heap[b]? = w.heap[b]?)
    {c : AV} {v : Value} (h : VC w M c v) : VC w' M' c v := by
  have hcell : ∀ (a : Addr) (j : Nat), a.block < w.heap.size → ¬ M a.block → w'.cell? (a.add j) = w.cell? (a.add j) := by
    intro a j hb hn
    refine World.cell?_of_block ?_
    have : (a.add j).block = a.block := by unfold Addr.add; split <;> rfl
    rw [this]
    exact hk _ hb hn
  induction h with
  | undef v => exact .undef v
  | bool b => exact .bool b
  | int k n => exact .int k n
  | str s bs h => exact .str s bs h
  | agg cs vs h _ ih => exact .agg cs vs h ih
  | tup cs vs h _ ih => exact .tup cs vs h ih
  | snap0 a cap => exact .snap0 a cap
  | snap n cs a cap vs hs hb hm hc hn hcl _ ih =>
    exact .snap n cs a cap vs hs (Nat.lt_of_lt_of_le hb hsize) (hM _ hb hm) hc hn (fun j hj => (hcell a j hb hm).trans (hcl j hj)) ih
  | fptr cs a vs hs hb hm hcl _ ih =>
    exact .fptr cs a vs hs (Nat.lt_of_lt_of_le hb hsize) (hM _ hb hm) (fun j hj => (hcell a j hb hm).trans (hcl j hj)) ih
  | nil0 a => exact .nil0 a
  | nilptr => exact .nilptr
  | nilmap => exact .nilmap
  | clo f a b a' b' ha hb _ _ ih1 ih2 => exact .clo f a b a' b' ha hb ih1 ih2
  | nilfn => exact .nilfn
  | iface t c v _ ih => exact .iface t c v ih
  | nilif => exact .nilif
  | lit v => exact .lit v

/-- The blocks that objects own. -/
def Own (ρ : Rho) (σ : St) (b : Nat) : Prop := ∃ (id : Nat) (o : AObj), σ[id]? = some o ∧ o.ob.own = true ∧ (ρ id).block = b

/-- All that can be written: what others own, and what these objects own. -/
def Mu (X : Nat → Prop) (ρ : Rho) (σ : St) (b : Nat) : Prop := X b ∨ Own ρ σ b

/-- An object and its block. -/
def OR (w : World) (M : Nat → Prop) (ρ : Rho) (σ : St) (p : Pl) : OB → Prop
  | .dead => True
  | .cells cs _ => ∃ cur e fz, w.heap[p.block]? = some (.cells cur e fz) ∧ cur.size = p.tot ∧ p.base + cs.length ≤ cur.size ∧
      (∀ j, j < cur.size → ¬ (fz.1 ≤ j ∧ j < fz.2)) ∧ ∀ (j : Nat) c, cs[j]? = some c → ∃ v, cur[p.base + j]? = some v ∧ VR w M ρ σ c v
  | .map es => ∃ ces clock, w.heap[p.block]? = some (.map ces clock) ∧ ces.size = es.length ∧
      (∀ (j : Nat) e, es[j]? = some e → ∃ ce, ces[j]? = some ce ∧ VR w M ρ σ e.1 ce.key ∧ VR w M ρ σ e.2 ce.val) ∧
      (∀ (j : Nat) ce, ces[j]? = some ce → ce.born < clock) ∧ (∀ (i j : Nat) ci cj, ces[i]? = some ci → ces[j]? = some cj → ci.born = cj.born → i = j)

structure Rel (X : Nat → Prop) (ρ : Rho) (σ : St) (w : World) : Prop where
  obj : ∀ (id : Nat) o, σ[id]? = some o → OR w (Mu X ρ σ) ρ σ (ρ id) o.ob
  inj : ∀ (i j : Nat) oi oj, σ[i]? = some oi → σ[j]? = some oj → oi.ob.own = true → oj.ob.live = true → i ≠ j → (ρ i).block ≠ (ρ j).block
  amb : ∀ (id : Nat) o, σ[id]? = some o → o.ob.live = true → ¬ X (ρ id).block
  lt : ∀ b, X b → b < w.heap.size

/-- From one world to a later one. -/
structure Tr (ρ : Rho) (σ : St) (w : World) (ρ' : Rho) (σ' : St) (w' : World) : Prop where
  os : w'.os = w.os
  tape : w'.tape = w.tape
  output : w'.output = w.output ∧ w.drawn ≤ w'.drawn
  size : w.heap.size ≤ w'.heap.size
  keep : ∀ b, b < w.heap.size → ¬ Own ρ σ b → w'.heap[b]? = w.heap[b]?
  new : ∀ b, b < w.heap.size → Own ρ' σ' b → Own ρ σ b
  ids : ∀ (id : Nat) (o : AObj), σ[id]? = some o → ∃ o', σ'[id]? = some o' ∧ o.ver ≤ o'.ver ∧
    (o.ver = o'.ver → o'.ob.isCells = true → o.ob.isCells = true ∧ ρ' id = ρ id) ∧ (o'.ob.isMap = true → o.ob.isMap = true ∧ ρ' id = ρ id)

theorem OB.live_cells {b : OB} (h : b.isCells = true) : b.live = true := by cases b <;> simp_all [OB.isCells, OB.live]
theorem OB.live_map {b : OB} (h : b.isMap = true) : b.live = true := by cases b <;> simp_all [OB.isMap, OB.live]
theorem OB.live_own {b : OB} (h : b.own = true) : b.live = true := by cases b <;> simp_all [OB.own, OB.live]

theorem Tr.refl (ρ : Rho) (σ : St) (w : World) : Tr ρ σ w ρ σ w :=
  ⟨rfl, rfl, ⟨rfl, Nat.le_refl _⟩, Nat.le_refl _, fun _ _ _ => rfl, fun _ _ h => h, fun id o h => ⟨o, h, Nat.le_refl _, fun _ h => ⟨h, rfl⟩, fun h => ⟨h, rfl⟩⟩⟩

theorem Tr.trans {ρ ρ1 ρ2 : Rho} {σ σ1 σ2 : St} {w w1 w2 : World} (h : Tr ρ σ w ρ1 σ1 w1) (k : Tr ρ1 σ1 w1 ρ2 σ2 w2) : Tr ρ σ w ρ2 σ2 w2 where
  os := k.os.trans h.os
  tape := k.tape.trans h.tape
  output := ⟨k.output.1.trans h.output.1, Nat.le_trans h.output.2 k.output.2⟩
  size := Nat.le_trans h.size k.size
  keep b hb hn := (k.keep b (Nat.lt_of_lt_of_le hb h.size) (fun ho => hn (h.new b hb ho))).trans (h.keep b hb hn)
  new b hb ho := h.new b hb (k.new b (Nat.lt_of_lt_of_le hb h.size) ho)
  ids id o ho := by
    obtain ⟨o1, h1, hv1, hk1, hm1⟩ := h.ids id o ho
    obtain ⟨o2, h2, hv2, hk2, hm2⟩ := k.ids id o1 h1
    refine ⟨o2, h2, Nat.le_trans hv1 hv2, fun hv hl => ?_, fun hm => ?_⟩
    · obtain ⟨a2, b2⟩ := hk2 (by omega) hl
      obtain ⟨a1, b1⟩ := hk1 (by omega) a2
      exact ⟨a1, b2.trans b1⟩
    · obtain ⟨a2, b2⟩ := hm2 hm
      obtain ⟨a1, b1⟩ := hm1 a2
      exact ⟨a1, b2.trans b1⟩

/-- What a value stands for, it stands for in every later world. -/
theorem VR.tr {X : Nat → Prop} {ρ ρ' : Rho} {σ σ' : St} {w w' : World} (t : Tr ρ σ w ρ' σ' w') {c : AV} {v : Value} (h : VR w (Mu X ρ σ) ρ σ c v) :
    VR w' (Mu X ρ' σ') ρ' σ' c v := by
  have hM : ∀ b, b < w.heap.size → ¬ Mu X ρ σ b → ¬ Mu X ρ' σ' b := fun b hb hn hm => hn (hm.imp id (t.new b hb))
  have hkk : ∀ b, b < w.heap.size → ¬ Mu X ρ σ b → w'.heap[b]? = w.heap[b]? := fun b hb hn => t.keep b hb (fun ho => hn (.inr ho))
  have hcell : ∀ (a : Addr) (j : Nat), a.spot = none → a.block < w.heap.size → ¬ Mu X ρ σ a.block → w'.cell? (a.add j) = w.cell? (a.add j) := by
    intro a j hs hb hn
    refine World.cell?_of_block ?_
    have : (a.add j).block = a.block := by unfold Addr.add; split <;> rfl
    rw [this]
    exact t.keep _ hb (fun ho => hn (.inr ho))
  induction h with
  | undef v => exact .undef v
  | bool b => exact .bool b
  | int k n => exact .int k n
  | str s bs h => exact .str s bs h
  | agg cs vs h _ ih => exact .agg cs vs h ih
  | tup cs vs h _ ih => exact .tup cs vs h ih
  | snap0 a cap => exact .snap0 a cap
  | snap n cs a cap vs hs hb hm hc hn hcl hv =>
    exact .snap n cs a cap vs hs (Nat.lt_of_lt_of_le hb t.size) (hM _ hb hm) hc hn (fun j hj => (hcell a j hs hb hm).trans (hcl j hj)) (fun j c hc => (hv j c hc).keep t.size hM hkk)
  | fptr cs a vs hs hb hm hcl hv =>
    exact .fptr cs a vs hs (Nat.lt_of_lt_of_le hb t.size) (hM _ hb hm) (fun j hj => (hcell a j hs hb hm).trans (hcl j hj)) (fun j c hc => (hv j c hc).keep t.size hM hkk)
  | nil0 a => exact .nil0 a
  | ref id ver off n k v h0 h1 h2 =>
    obtain ⟨o, ho, hv⟩ := h1
    obtain ⟨o', ho', hv', hk, _⟩ := t.ids id o ho
    refine .ref id ver off n k v h0 ⟨o', ho', Nat.le_trans hv hv'⟩ ?_
    intro o'' ho'' hver hc
    rw [ho'] at ho''
    cases ho''
    have e : o.ver = o'.ver := by omega
    obtain ⟨hc', hr⟩ := hk e hc
    rw [hr]
    exact h2 o ho (e.trans hver) hc'
  | ptr id ver off v h0 h1 h2 =>
    obtain ⟨o, ho, hv⟩ := h1
    obtain ⟨o', ho', hv', hk, _⟩ := t.ids id o ho
    refine .ptr id ver off v h0 ⟨o', ho', Nat.le_trans hv hv'⟩ ?_
    intro o'' ho'' hver hc
    rw [ho'] at ho''
    cases ho''
    have e : o.ver = o'.ver := by omega
    obtain ⟨hc', hr⟩ := hk e hc
    rw [hr]
    exact h2 o ho (e.trans hver) hc'
  | nilptr => exact .nilptr
  | mref id v h0 h1 h2 =>
    obtain ⟨o, ho⟩ := h1
    obtain ⟨o', ho', hv', _, hk⟩ := t.ids id o ho
    refine .mref id v h0 ⟨o', ho'⟩ ?_
    intro o'' ho'' hm
    rw [ho'] at ho''
    cases ho''
    obtain ⟨hm', hr⟩ := hk hm
    rw [hr]
    exact h2 o ho hm'
  | nilmap => exact .nilmap
  | clo f a b a' b' ha hb _ _ ih1 ih2 => exact .clo f a b a' b' ha hb ih1 ih2
  | nilfn => exact .nilfn
  | iface t c v _ ih => exact .iface t c v ih
  | nilif => exact .nilif
  | lit v => exact .lit v

end Go.Am

/- First facts: frames, reading of cells, what is known of the program's tables. -/
set_option linter.unusedVariables false
set_option linter.unusedSimpArgs false
namespace Go.Am

abbrev VRs (w : World) (M : Nat → Prop) (ρ : Rho) (σ : St) (cs : List AV) (vs : Array Value) : Prop :=
  vs.size = cs.length ∧ ∀ (i : Nat) c v, cs[i]? = some c → vs[i]? = some v → VR w M ρ σ c v

theorem VRs.tr {X : Nat → Prop} {ρ ρ' : Rho} {σ σ' : St} {w w' : World} (t : Tr ρ σ w ρ' σ' w') {cs : List AV} {vs : Array Value} (h : VRs w (Mu X ρ σ) ρ σ cs vs) :
    VRs w' (Mu X ρ' σ') ρ' σ' cs vs := ⟨h.1, fun i c v hc hv => (h.2 i c v hc hv).tr t⟩

/-- A frame and what it stands for. -/
structure FR (X : Nat → Prop) (ρ : Rho) (σ : St) (w : World) (fr : Fr) (a : Act) : Prop where
  all : VRs w (Mu X ρ σ) ρ σ fr a.tmps
  dfr : a.defers = []

theorem FR.tr {X : Nat → Prop} {ρ ρ' : Rho} {σ σ' : St} {w w' : World} {fr : Fr} {a : Act} (h : FR X ρ σ w fr a) (t : Tr ρ σ w ρ' σ' w') : FR X ρ' σ' w' fr a := ⟨h.all.tr t, h.dfr⟩

theorem vr_const1 (w : World) (M : Nat → Prop) (ρ : Rho) (σ : St) (v : Value) : VR w M ρ σ (ofConst1 v) v := by
  unfold ofConst1
  split <;> first | exact .undef _ | exact .bool _ | exact .int _ _ | exact .str _ _ rfl | exact .nilptr | exact .nil0 _ | exact .nilmap | exact .nilfn | exact .nilif

theorem vr_const (w : World) (M : Nat → Prop) (ρ : Rho) (σ : St) (v : Value) : VR w M ρ σ (ofConst v) v := by
  unfold ofConst
  split <;> first | exact .undef _ | exact .bool _ | exact .int _ _ | exact .str _ _ rfl | exact .nilptr | exact .nil0 _ | exact .nilmap | exact .nilfn | exact .nilif | skip
  refine .agg _ _ (by simp) (fun i c v hc hv => ?_)
  rw [List.getElem?_map, Array.getElem?_toList, hv] at hc
  simp at hc
  subst hc
  exact vr_const1 ..

theorem FR.ev {X : Nat → Prop} {ρ : Rho} {σ : St} {w : World} {fr : Fr} {a : Act} (h : FR X ρ σ w fr a) (x : Operand) : VR w (Mu X ρ σ) ρ σ (Am.ev fr x) (a.eval x) := by
  cases x with
  | tmp t =>
    simp only [Am.ev, Act.eval]
    rcases Nat.lt_or_ge t fr.length with hl | hl
    · have hl' : t < a.tmps.size := by rw [h.all.1]; exact hl
      refine h.all.2 t _ _ ?_ ?_
      · simp [List.getD_eq_getElem?_getD, List.getElem?_eq_getElem hl]
      · simp [Array.getD_eq_getD_getElem?, Array.getElem?_eq_getElem hl']
    · rw [List.getD_eq_getElem?_getD, List.getElem?_eq_none hl]
      exact .undef _
  | const v => exact vr_const ..
  | global g => exact .undef _
  | func f => exact .clo f [] [] #[] #[] rfl rfl (fun i c v hc => by simp at hc) (fun i c v hc => by simp at hc)

def Fr.put (fr : Fr) (dst : Option Tmp) (c : AV) : Fr :=
  match dst with
  | some d => fr.set d c
  | none => fr

theorem FR.put {X : Nat → Prop} {ρ : Rho} {σ : St} {w : World} {fr : Fr} {a : Act} (h : FR X ρ σ w fr a) (d : Option Tmp) {c : AV} {v : Value} (hv : VR w (Mu X ρ σ) ρ σ c v) :
    FR X ρ σ w (fr.put d c) (a.put d v) := by
  cases d with
  | none => exact h
  | some d =>
    refine ⟨⟨by simp [Act.put, Fr.put, h.all.1], ?_⟩, h.dfr⟩
    intro i c' v' hc' hv'
    simp only [Act.put, Fr.put] at hc' hv'
    rw [List.getElem?_set] at hc'
    rw [Array.getElem?_setIfInBounds] at hv'
    by_cases hd : d = i
    · subst hd
      rw [if_pos rfl] at hc' hv'
      split at hc'
      · split at hv'
        · cases hc'; cases hv'; exact hv
        · cases hv'
      · cases hc'
    · rw [if_neg hd] at hc' hv'
      exact h.all.2 i _ _ hc' hv'

theorem VR.one {w : World} {M : Nat → Prop} {ρ : Rho} {σ : St} {c : AV} {v : Value} (h : VR w M ρ σ c v) (ho : c.one = true) : v.oneCell' = true := by
  cases h with
  | undef => simp [AV.one] at ho
  | lit => simp [AV.one] at ho
  | agg => simp [AV.one] at ho
  | tup => simp [AV.one] at ho
  | ref id ver off n k v h0 => obtain ⟨_, _, rfl, _⟩ := h0; rfl
  | ptr id ver off v h0 => obtain ⟨_, rfl⟩ := h0; rfl
  | mref id v h0 => obtain ⟨_, rfl⟩ := h0; rfl
  | _ => rfl

/-- The cells of a value. -/
theorem VR.cells {w : World} {M : Nat → Prop} {ρ : Rho} {σ : St} {c : AV} {v : Value} (h : VR w M ρ σ c v) {cs : List AV} (hc : c.cells = some cs) : VRs w M ρ σ cs v.cells := by
  have one : ∀ {c : AV} {v : Value}, VR w M ρ σ c v → v.oneCell' = true → c.cells = some cs → c.one = true → VRs w M ρ σ cs v.cells := by
    intro c v h hv hc ho
    have e : v.cells = #[v] := by cases v <;> simp_all [Value.oneCell', Value.cells]
    have e2 : cs = [c] := by cases c <;> simp_all [AV.cells, AV.one]
    subst e2
    rw [e]
    refine ⟨rfl, ?_⟩
    intro i c' v' h1 h2
    cases i with
    | zero => simp at h1 h2; subst h1; subst h2; exact h
    | succ i => simp at h1
  cases hcc : c with
  | agg cs' =>
    rw [hcc] at h hc
    simp only [AV.cells, Option.some.injEq] at hc
    subst hc
    cases h with
    | agg _ vs h1 h2 => exact ⟨h1, h2⟩
  | undef => rw [hcc] at hc; simp [AV.cells] at hc
  | lit v => rw [hcc] at hc; simp [AV.cells] at hc
  | tup vs => rw [hcc] at hc; simp [AV.cells] at hc
  | _ => exact one h (h.one (by rw [hcc]; rfl)) hc (by rw [hcc]; rfl)

theorem rd_some {σ : St} {id ver off cnt : Nat} {cs : List AV} (h : rd σ id ver off cnt = some cs) :
    ∃ o cs0 b, σ[id]? = some o ∧ o.ver = ver ∧ o.ob = .cells cs0 b ∧ off + cnt ≤ cs0.length ∧ cs = (cs0.drop off).take cnt := by
  unfold rd at h
  split at h
  · rename_i v cs0 b ho
    split at h
    · rename_i hc
      cases h
      exact ⟨_, _, _, ho, hc.1, rfl, hc.2, rfl⟩
    · cases h
  · cases h

theorem add_lit (b o j : Nat) : (⟨b, o, none⟩ : Addr).add j = ⟨b, o + j, none⟩ := by unfold Addr.add; split <;> simp_all

/-- The cells behind a pointer are there, and hold what the machine says. -/
theorem deref_sound {X : Nat → Prop} {ρ : Rho} {σ : St} {w : World} (hR : Rel X ρ σ w) {p : AV} {v : Value} (hv : VR w (Mu X ρ σ) ρ σ p v) {cnt : Nat} {cs : List AV}
    (h : deref σ p cnt = some cs) :
    cs.length = cnt ∧ ∃ (ad : Addr) (vs : Nat → Value), v = .pointer (some ad) ∧ (∀ j, j < cnt → w.cell? (ad.add j) = some (vs j)) ∧ ∀ (j : Nat) c, cs[j]? = some c → VR w (Mu X ρ σ) ρ σ c (vs j) := by
  cases p with
  | ptr id ver off =>
    obtain ⟨o, cs0, b, ho, hver, hob, hle, rfl⟩ := rd_some h
    cases hv with
    | ptr _ _ _ _ h0 h1 h2 =>
      have hobj := hR.obj id o ho
      rw [hob] at hobj
      obtain ⟨cur, e, fz, hh, htot, hfit, hfz, hcells⟩ := hobj
      refine ⟨by simp; omega, _, fun j => cur.getD ((ρ id).base + off + j) default, h2 o ho hver (by rw [hob]; rfl), ?_, ?_⟩
      · intro j hj
        rw [add_lit]
        have hlt : (ρ id).base + off + j < cur.size := by omega
        simp [World.cell?, hh, Array.getD_eq_getD_getElem?, Array.getElem?_eq_getElem hlt]
      · intro j c hc
        rw [List.getElem?_take] at hc
        split at hc
        · rename_i hj
          rw [List.getElem?_drop] at hc
          obtain ⟨u, hu, hvr⟩ := hcells (off + j) c hc
          rw [← Nat.add_assoc] at hu
          simpa [Array.getD_eq_getD_getElem?, hu] using hvr
        · cases hc
  | fptr cs0 =>
    simp only [deref] at h
    split at h
    · rename_i hle
      cases h
      cases hv with
      | fptr _ a vs hs hb hm hcl hvr =>
        refine ⟨by simp; omega, a, vs, rfl, fun j hj => hcl j (by omega), ?_⟩
        intro j c hc
        rw [List.getElem?_take] at hc
        split at hc
        · exact (hvr j c hc).lift ρ σ
        · cases hc
    · cases h
  | _ => simp [deref] at h

/-- The elements of a slice are there, and are what the machine says. -/
theorem elems_sound {X : Nat → Prop} {ρ : Rho} {σ : St} {w : World} (hR : Rel X ρ σ w) {x : AV} {v : Value} (hv : VR w (Mu X ρ σ) ρ σ x v) {k n : Nat} {cs : List AV}
    (h : elems σ k x = some (n, cs)) :
    cs.length = n * k ∧ ∃ (a : Option Addr) (cap : Nat) (vs : Nat → Value), v = .slice a n cap ∧ n ≤ cap ∧ (n = 0 ∨ ∃ ad : Addr, a = some ad ∧ ∀ j : Nat, j < n * k → w.cell? (ad.add j) = some (vs j)) ∧
      ∀ (j : Nat) c, cs[j]? = some c → VR w (Mu X ρ σ) ρ σ c (vs j) := by
  cases x with
  | nil0 =>
    simp only [elems, Option.some.injEq, Prod.mk.injEq] at h
    obtain ⟨rfl, rfl⟩ := h
    cases hv with
    | nil0 a => exact ⟨by simp, a, 0, fun _ => default, rfl, Nat.le_refl _, .inl rfl, fun j c hc => by simp at hc⟩
  | snap n0 cs0 =>
    simp only [elems] at h
    split at h
    · rename_i hl
      simp only [Option.some.injEq, Prod.mk.injEq] at h
      obtain ⟨rfl, rfl⟩ := h
      refine ⟨hl, ?_⟩
      cases hv with
      | snap0 a cap => exact ⟨a, cap, fun _ => default, rfl, Nat.zero_le _, .inl rfl, fun j c hc => by simp at hc⟩
      | snap _ _ a cap vs hs hb hm hc hn hcl hvr => exact ⟨some a, cap, vs, rfl, hc, .inr ⟨a, rfl, fun j hj => hcl j (by omega)⟩, fun j c hc => (hvr j c hc).lift ρ σ⟩
    · cases h
  | ref id ver off n0 k0 =>
    simp only [elems] at h
    split at h
    · rename_i hn0
      simp only [Option.some.injEq, Prod.mk.injEq] at h
      obtain ⟨rfl, rfl⟩ := h
      subst hn0
      cases hv with
      | ref _ _ _ _ _ _ h0 _ _ =>
        obtain ⟨ad, cap, rfl, hcap⟩ := h0
        exact ⟨by simp, some ad, cap, fun _ => default, rfl, hcap, .inl rfl, fun j c hc => by simp at hc⟩
    split at h
    · rename_i hk
      subst hk
      simp only [Option.map_eq_some_iff, Prod.mk.injEq] at h
      obtain ⟨cs1, hrd, rfl, rfl⟩ := h
      obtain ⟨o, cs0, b, ho, hver, hob, hle, rfl⟩ := rd_some hrd
      cases hv with
      | ref _ _ _ _ _ _ h0 h1 h2 =>
        obtain ⟨cap, rfl, hcap, _⟩ := h2 o ho hver (by rw [hob]; rfl)
        have hobj := hR.obj id o ho
        rw [hob] at hobj
        obtain ⟨cur, e, fz, hh, htot, hfit, hfz, hcells⟩ := hobj
        refine ⟨by simp; omega, _, cap, fun j => cur.getD ((ρ id).base + off + j) default, rfl, hcap, .inr ⟨_, rfl, ?_⟩, ?_⟩
        · intro j hj
          rw [add_lit]
          have hlt : (ρ id).base + off + j < cur.size := by omega
          simp [World.cell?, hh, Array.getD_eq_getD_getElem?, Array.getElem?_eq_getElem hlt]
        · intro j c hc
          rw [List.getElem?_take] at hc
          split at hc
          · rename_i hj
            rw [List.getElem?_drop] at hc
            obtain ⟨u, hu, hvr⟩ := hcells (off + j) c hc
            rw [← Nat.add_assoc] at hu
            simpa [Array.getD_eq_getD_getElem?, hu] using hvr
          · cases hc
    · cases h
  | _ => simp [elems] at h

end Go.Am

/- A new object; an object that is written. -/
set_option linter.unusedVariables false
set_option linter.unusedSimpArgs false
namespace Go.Am

theorem OR.tr {X : Nat → Prop} {ρ ρ' : Rho} {σ σ' : St} {w w' : World} (t : Tr ρ σ w ρ' σ' w') {p : Pl} {ob : OB} (hb : w'.heap[p.block]? = w.heap[p.block]?)
    (h : OR w (Mu X ρ σ) ρ σ p ob) : OR w' (Mu X ρ' σ') ρ' σ' p ob := by
  cases ob with
  | dead => trivial
  | cells cs b =>
    obtain ⟨cur, e, fz, hh, h1, h2, h3, h4⟩ := h
    exact ⟨cur, e, fz, hb.trans hh, h1, h2, h3, fun j c hc => let ⟨v, hv, hr⟩ := h4 j c hc; ⟨v, hv, hr.tr t⟩⟩
  | map es =>
    obtain ⟨ces, clock, hh, h1, h2, h3, h4⟩ := h
    exact ⟨ces, clock, hb.trans hh, h1, fun j e he => let ⟨ce, hce, ha, hb⟩ := h2 j e he; ⟨ce, hce, ha.tr t, hb.tr t⟩, h3, h4⟩

theorem OR.lt {w : World} {M : Nat → Prop} {ρ : Rho} {σ : St} {p : Pl} {ob : OB} (h : OR w M ρ σ p ob) (hl : ob.live = true) : p.block < w.heap.size := by
  cases ob with
  | dead => simp [OB.live] at hl
  | cells cs b => obtain ⟨cur, e, fz, hh, _⟩ := h; exact (Array.getElem?_eq_some_iff.1 hh).1
  | map es => obtain ⟨ces, clock, hh, _⟩ := h; exact (Array.getElem?_eq_some_iff.1 hh).1

def upd (ρ : Rho) (id : Nat) (p : Pl) : Rho := fun i => if i = id then p else ρ i
theorem upd_same (ρ : Rho) (id : Nat) (p : Pl) : upd ρ id p id = p := by simp [upd]
theorem upd_ne (ρ : Rho) (p : Pl) {i id : Nat} (h : i ≠ id) : upd ρ id p i = ρ i := by simp [upd, h]

theorem get_snoc {σ : St} {o : AObj} {i : Nat} {x : AObj} (h : (σ ++ [o])[i]? = some x) : (i < σ.length ∧ σ[i]? = some x) ∨ (i = σ.length ∧ x = o) := by
  rw [List.getElem?_append] at h
  split at h
  · rename_i hl; exact .inl ⟨hl, h⟩
  · rename_i hl
    rcases Nat.eq_zero_or_pos (i - σ.length) with hz | hp
    · rw [hz] at h; simp at h; exact .inr ⟨by omega, h.symm⟩
    · rw [List.getElem?_eq_none (by simp; omega)] at h; cases h

theorem lt_of_get {σ : St} {i : Nat} {x : AObj} (h : σ[i]? = some x) : i < σ.length := (List.getElem?_eq_some_iff.1 h).1

/-- A new object in a new block. -/
theorem rel_new {X : Nat → Prop} {ρ : Rho} {σ : St} {w : World} (hR : Rel X ρ σ w) (ob : OB) (hown : ob.own = true) (tot : Nat) {w' : World}
    (hos : w'.os = w.os) (htape : w'.tape = w.tape) (hout : w'.output = w.output ∧ w.drawn ≤ w'.drawn) (hsize : w'.heap.size = w.heap.size + 1) (hkeep : ∀ b, b < w.heap.size → w'.heap[b]? = w.heap[b]?)
    (hOR : Tr ρ σ w (upd ρ σ.length ⟨w.heap.size, 0, tot⟩) (σ ++ [⟨0, ob⟩]) w' → OR w' (Mu X (upd ρ σ.length ⟨w.heap.size, 0, tot⟩) (σ ++ [⟨0, ob⟩])) (upd ρ σ.length ⟨w.heap.size, 0, tot⟩) (σ ++ [⟨0, ob⟩]) ⟨w.heap.size, 0, tot⟩ ob) :
    Rel X (upd ρ σ.length ⟨w.heap.size, 0, tot⟩) (σ ++ [⟨0, ob⟩]) w' ∧ Tr ρ σ w (upd ρ σ.length ⟨w.heap.size, 0, tot⟩) (σ ++ [⟨0, ob⟩]) w' := by
  have hold : ∀ {i : Nat} {x : AObj}, σ[i]? = some x → upd ρ σ.length ⟨w.heap.size, 0, tot⟩ i = ρ i := fun h => upd_ne _ _ (by have := lt_of_get h; omega)
  have T : Tr ρ σ w (upd ρ σ.length ⟨w.heap.size, 0, tot⟩) (σ ++ [⟨0, ob⟩]) w' := by
    refine ⟨hos, htape, hout, by omega, fun b hb _ => hkeep b hb, ?_, ?_⟩
    · rintro b hb ⟨id, o, ho, hw, rfl⟩
      rcases get_snoc ho with ⟨hl, ho⟩ | ⟨rfl, rfl⟩
      · rw [hold ho]; exact ⟨id, o, ho, hw, rfl⟩
      · rw [upd_same] at hb; simp at hb
    · intro id o ho
      refine ⟨o, ?_, Nat.le_refl _, fun _ h => ⟨h, hold ho⟩, fun h => ⟨h, hold ho⟩⟩
      rw [List.getElem?_append_left (lt_of_get ho)]; exact ho
  have hlt : ∀ (i : Nat) (o : AObj), σ[i]? = some o → o.ob.live = true → (ρ i).block < w.heap.size := fun i o ho hl => (hR.obj i o ho).lt hl
  refine ⟨⟨?_, ?_, ?_, fun b hb => by have := hR.lt b hb; omega⟩, T⟩
  · intro id o ho
    rcases get_snoc ho with ⟨hl, ho⟩ | ⟨rfl, rfl⟩
    · rw [hold ho]
      by_cases hlv : o.ob.live = true
      · exact (hR.obj id o ho).tr T (hkeep _ (hlt id o ho hlv))
      · cases hob : o.ob <;> simp_all [OB.live, OR]
    · rw [upd_same]; exact hOR T
  · intro i j oi oj hi hj h1 h2 hne
    rcases get_snoc hi with ⟨hli, hi⟩ | ⟨rfl, rfl⟩ <;> rcases get_snoc hj with ⟨hlj, hj⟩ | ⟨rfl, rfl⟩
    · rw [hold hi, hold hj]; exact hR.inj i j oi oj hi hj h1 h2 hne
    · rw [hold hi, upd_same]
      have := hlt i oi hi (OB.live_own h1)
      simp; omega
    · rw [hold hj, upd_same]
      have := hlt j oj hj h2
      simp; omega
    · exact absurd rfl hne
  · intro id o ho hl hx
    rcases get_snoc ho with ⟨hli, ho⟩ | ⟨rfl, rfl⟩
    · rw [hold ho] at hx; exact hR.amb id o ho hl hx
    · rw [upd_same] at hx; have := hR.lt _ hx; simp at this

theorem get_set {σ : St} {id i : Nat} {o x : AObj} (h : (σ.set id o)[i]? = some x) : (i = id ∧ x = o) ∨ (i ≠ id ∧ σ[i]? = some x) := by
  rw [List.getElem?_set] at h
  split at h
  · rename_i e; subst e
    split at h
    · cases h; exact .inl ⟨rfl, rfl⟩
    · cases h
  · rename_i e; exact .inr ⟨fun e' => e e'.symm, h⟩

/-- An object of our own is written. -/
theorem rel_upd {X : Nat → Prop} {ρ : Rho} {σ : St} {w : World} (hR : Rel X ρ σ w) {id : Nat} {o : AObj} (ho : σ[id]? = some o) (hown : o.ob.own = true) (o' : AObj) (hown' : o'.ob.own = true)
    (hver : o.ver ≤ o'.ver) (p : Pl) (hcells : o'.ob.isCells = true → o.ver = o'.ver → o.ob.isCells = true ∧ p = ρ id) (hmap : o'.ob.isMap = true → o.ob.isMap = true ∧ p = ρ id)
    (hp : p.block = (ρ id).block ∨ p.block = w.heap.size) {w' : World}
    (hos : w'.os = w.os) (htape : w'.tape = w.tape) (hout : w'.output = w.output ∧ w.drawn ≤ w'.drawn) (hsize : w.heap.size ≤ w'.heap.size) (hkeep : ∀ b, b < w.heap.size → b ≠ (ρ id).block → w'.heap[b]? = w.heap[b]?)
    (hOR : Tr ρ σ w (upd ρ id p) (σ.set id o') w' → OR w' (Mu X (upd ρ id p) (σ.set id o')) (upd ρ id p) (σ.set id o') p o'.ob) :
    Rel X (upd ρ id p) (σ.set id o') w' ∧ Tr ρ σ w (upd ρ id p) (σ.set id o') w' := by
  have hlen := lt_of_get ho
  have hlt : ∀ (i : Nat) (o : AObj), σ[i]? = some o → o.ob.live = true → (ρ i).block < w.heap.size := fun i o ho hl => (hR.obj i o ho).lt hl
  have T : Tr ρ σ w (upd ρ id p) (σ.set id o') w' := by
    refine ⟨hos, htape, hout, hsize, fun b hb hn => hkeep b hb (fun e => hn ⟨id, o, ho, hown, e.symm⟩), ?_, ?_⟩
    · rintro b hb ⟨i, x, hx, hw, rfl⟩
      rcases get_set hx with ⟨rfl, rfl⟩ | ⟨hne, hx⟩
      · rw [upd_same] at hb ⊢
        rcases hp with hp | hp
        · exact ⟨i, o, ho, hown, hp.symm⟩
        · omega
      · rw [upd_ne _ _ hne]; exact ⟨i, x, hx, hw, rfl⟩
    · intro i x hx
      by_cases hi : i = id
      · subst hi
        rw [ho] at hx; cases hx
        refine ⟨o', by simp [hlen], hver, fun hv hc => ?_, fun hm => ?_⟩
        · rw [upd_same]; exact hcells hc hv
        · rw [upd_same]; exact hmap hm
      · refine ⟨x, ?_, Nat.le_refl _, fun _ h => ⟨h, upd_ne _ _ hi⟩, fun h => ⟨h, upd_ne _ _ hi⟩⟩
        rw [List.getElem?_set_ne (Ne.symm hi)]; exact hx
  refine ⟨⟨?_, ?_, ?_, fun b hb => Nat.lt_of_lt_of_le (hR.lt b hb) hsize⟩, T⟩
  · intro i x hx
    rcases get_set hx with ⟨rfl, rfl⟩ | ⟨hne, hx⟩
    · rw [upd_same]; exact hOR T
    · rw [upd_ne _ _ hne]
      by_cases hlv : x.ob.live = true
      · exact (hR.obj i x hx).tr T (hkeep _ (hlt i x hx hlv) (fun e => hR.inj id i o x ho hx hown hlv (Ne.symm hne) e.symm))
      · cases hob : x.ob <;> simp_all [OB.live, OR]
  · intro i j oi oj hi hj h1 h2 hne
    rcases get_set hi with ⟨ei, fi⟩ | ⟨hni, gi⟩ <;> rcases get_set hj with ⟨ej, fj⟩ | ⟨hnj, gj⟩
    · exact absurd (ei.trans ej.symm) hne
    · subst ei
      rw [upd_same, upd_ne _ _ hnj]
      rcases hp with hp | hp
      · rw [hp]; exact hR.inj i j o oj ho gj hown h2 hne
      · have := hlt j oj gj h2; omega
    · subst ej
      rw [upd_same, upd_ne _ _ hni]
      rcases hp with hp | hp
      · rw [hp]; exact hR.inj i j oi o gi ho h1 (OB.live_own hown) hne
      · have := hlt i oi gi (OB.live_own h1); omega
    · rw [upd_ne _ _ hni, upd_ne _ _ hnj]; exact hR.inj i j oi oj gi gj h1 h2 hne
  · intro i x hx hl hX
    rcases get_set hx with ⟨rfl, rfl⟩ | ⟨hne, hx⟩
    · rw [upd_same] at hX
      rcases hp with hp | hp
      · rw [hp] at hX; exact hR.amb i o ho (OB.live_own hown) hX
      · have := hR.lt _ hX; omega
    · rw [upd_ne _ _ hne] at hX; exact hR.amb i x hx hl hX

end Go.Am

/- What must be known of the program's tables; operations that leave the world alone. -/
set_option linter.unusedVariables false
set_option linter.unusedSimpArgs false
namespace Go.Am

/-- Equality of plain structs, as the machine has it. -/
structure FlatOK (P : Program) (t : TypeId) (n : Nat) (zs : List AV) : Prop where
  guard : P.eqGuardType P.depth t = false
  eq : ∀ (w : World) (M : Nat → Prop) (ρ : Rho) (σ : St) (as bs : List AV) (xs ys : Array Value) (e : Bool), as.length = n → bs.length = n → tags as zs = true → VRs w M ρ σ as xs → VRs w M ρ σ bs ys →
    eqCells as bs = some e → (Op.equalIn 10000 t (.agg xs) (.agg ys)).run P w = .ok e w
  key : ∀ (w : World) (M : Nat → Prop) (ρ : Rho) (σ : St) (as : List AV) (xs : Array Value) (b : Bool), as.length = n → tags as zs = true → VRs w M ρ σ as xs → (Instr.checkKey b 10000 t (.agg xs)).run P w = .ok () w

structure TyOK (P : Program) (t : TypeId) (i : TI) : Prop where
  und : P.underlying t = some i.desc
  info : ∃ info z, P.info? t = some info ∧ info.size = i.size ∧ info.bytes = i.bytes ∧ info.zero = some z ∧ i.zero = z.cells.toList.map ofConst ∧ i.zero.all AV.one = true ∧
    i.zero.length = i.size ∧ (i.agg = true → ∃ cs, z = .agg cs) ∧ (i.agg = false → z.oneCell' = true)
  flat : i.flat = true → FlatOK P t i.size i.zero

structure TabOK (P : Program) (T : Tab) : Prop where
  ty : ∀ t i, T.ty t = some i → TyOK P t i
  fn : ∀ f fn, T.fn f = some fn → P.funcs[f]? = some fn ∧ fn.body.isNone = false ∧ (fn.name == "runtime.NumGoroutine") = false
  ext : ∀ f g, T.fn f = none → T.ext f = some g → ∀ (X : Nat → Prop) (ρ : Rho) (σ : St) (w : World) (args : List AV) (v : AV) (cargs : Array Value), g args = some v → VRs w (Mu X ρ σ) ρ σ args cargs →
    Rel X ρ σ w → ∃ cv, (callFunc f cargs).run P w = .ok (.value cv) w ∧ VR w (Mu X ρ σ) ρ σ v cv

/-- What an operation of the model comes to, beside the machine's step. -/
def Good (X : Nat → Prop) (ρ : Rho) (σ : St) (w : World) (r : AStep) (res : Result Next) : Prop :=
  match r with
  | .val c σ' => ∃ v w' ρ', res = .ok (.value v) w' ∧ Rel X ρ' σ' w' ∧ Tr ρ σ w ρ' σ' w' ∧ VR w' (Mu X ρ' σ') ρ' σ' c v
  | .skip σ' => ∃ w' ρ', res = .ok .skip w' ∧ Rel X ρ' σ' w' ∧ Tr ρ σ w ρ' σ' w'
  | .call f args => ∃ cargs, res = .ok (.enter f cargs) w ∧ VRs w (Mu X ρ σ) ρ σ args cargs

theorem Good.pure {X : Nat → Prop} {ρ : Rho} {σ : St} {w : World} (hR : Rel X ρ σ w) {c : AV} {v : Value} {res : Result Next} (h : res = .ok (.value v) w)
    (hv : VR w (Mu X ρ σ) ρ σ c v) : Good X ρ σ w (.val c σ) res := ⟨v, w, ρ, h, hR, Tr.refl .., hv⟩

theorem val_some {σ : St} {x : Option AV} {r : AStep} (h : val σ x = some r) : ∃ c, x = some c ∧ r = .val c σ := by
  unfold val at h
  cases x with
  | none => cases h
  | some c => exact ⟨c, rfl, by simpa using h.symm⟩

variable {P : Program} {T : Tab} {X : Nat → Prop} {ρ : Rho} {σ : St} {w : World}

theorem run_typeInfo {t : TypeId} {info : TypeInfo} (h : P.info? t = some info) (w : World) : (typeInfo t).run P w = .ok info w := by simp [typeInfo, h]

theorem TyOK.sizeOf {t : TypeId} {i : TI} (h : TyOK P t i) (w : World) : (sizeOf t).run P w = .ok i.size w := by
  obtain ⟨info, z, h1, h2, _⟩ := h.info
  simp [Go.sizeOf, run_typeInfo h1, h2]
theorem TyOK.isAgg {t : TypeId} {i : TI} (h : TyOK P t i) (w : World) : (isAgg t).run P w = .ok i.agg w := by
  simp only [Go.isAgg, Sem.run_bind, run_underlying h.und, Result.andThen_ok, TI.agg]
  split <;> simp_all

/-- Cells read one after the other. -/
theorem run_cells (w : World) (ad : Addr) (n : Nat) (vs : Nat → Value) (h : ∀ j, j < n → w.cell? (ad.add j) = some (vs j)) :
    (loadCells ad n).run P w = .ok ((Array.range n).map vs) w := by
  have := run_loadCells (P := P) (w := w) ad n vs h
  rw [this]
  congr 1
  apply Array.ext
  · simp
  · intro i h1 h2; simp

theorem vrs_range {M : Nat → Prop} {cs : List AV} {n : Nat} {vs : Nat → Value} (hl : cs.length = n) (h : ∀ (j : Nat) c, cs[j]? = some c → VR w M ρ σ c (vs j)) :
    VRs w M ρ σ cs ((Array.range n).map vs) := by
  refine ⟨by simp [hl], ?_⟩
  intro i c v hc hv
  have hi : i < n := by have := (List.getElem?_eq_some_iff.1 hc).1; omega
  simp [hi] at hv
  subst hv
  exact h i c hc

/-- A value of some type out of its cells. -/
theorem chunk_sound {t : TypeId} {i : TI} (hty : TyOK P t i) {cs : List AV} {c : AV} (h : chunkLoad i cs = some c) (hl : cs.length = i.size) {ad : Addr} {vs : Nat → Value} {M : Nat → Prop}
    (hcell : ∀ j, j < i.size → w.cell? (ad.add j) = some (vs j)) (hvr : ∀ (j : Nat) c, cs[j]? = some c → VR w M ρ σ c (vs j)) :
    ∃ v, (loadVar t ad).run P w = .ok v w ∧ VR w M ρ σ c v := by
  unfold chunkLoad at h
  simp only [loadVar, Sem.run_bind, hty.isAgg, Result.andThen_ok, Sem.run_ite]
  by_cases ha : i.agg = true
  · simp only [ha, if_true, Option.some.injEq] at h ⊢
    subst h
    simp only [Sem.run_bind, hty.sizeOf, Result.andThen_ok, run_cells w ad i.size vs hcell, Sem.run_pure]
    exact ⟨_, rfl, .agg _ _ (by simp [hl]) (vrs_range hl hvr).2⟩
  · simp only [ha, if_false, Bool.false_eq_true] at h ⊢
    split at h
    · rename_i v
      split at h
      · cases h
        have hs : 0 < i.size := by simp at hl; omega
        have h0 := hcell 0 hs
        have e0 : ad.add 0 = ad := by simp [Addr.add]
        rw [e0] at h0
        simp only [run_load, h0]
        exact ⟨_, rfl, hvr 0 _ rfl⟩
      · cases h
    · cases h

theorem op_load {o : Oper} {t : TypeId} {x : Operand} (ho : o.op = .load t x) {fr : Fr} {a : Act} (hT : TabOK P T) (hR : Rel X ρ σ w) (hF : FR X ρ σ w fr a) {r : AStep} (h : astep T o fr σ = some r) :
    Good X ρ σ w r ((execOp a.eval o).run P w) := by
  simp only [astep, ho, Option.bind_eq_some_iff] at h
  obtain ⟨i, hi, cs, hcs, h⟩ := h
  obtain ⟨c, hc, rfl⟩ := val_some h
  have hty := hT.ty t i hi
  obtain ⟨hl, ad, vs, hv, hcell, hvr⟩ := deref_sound hR (hF.ev x) hcs
  obtain ⟨v, hrun, hvv⟩ := chunk_sound hty hc hl hcell hvr
  refine Good.pure hR (v := v) ?_ hvv
  simp [execOp, ho, Instr.loadAt, Instr.sureAddr, hv, hrun]

theorem op_move {o : Oper} {x : Operand} (ho : o.op = .move x ∨ o.op = .assign x) {fr : Fr} {a : Act} (hR : Rel X ρ σ w) (hF : FR X ρ σ w fr a) {r : AStep} (h : astep T o fr σ = some r) :
    Good X ρ σ w r ((execOp a.eval o).run P w) := by
  rcases ho with ho | ho <;>
  · simp only [astep, ho, Option.some.injEq] at h
    subst h
    exact Good.pure hR (by simp [execOp, ho]) (hF.ev x)

theorem op_pick {o : Oper} {c x y : Operand} (ho : o.op = .pick c x y) {fr : Fr} {a : Act} (hR : Rel X ρ σ w) (hF : FR X ρ σ w fr a) {r : AStep} (h : astep T o fr σ = some r) :
    Good X ρ σ w r ((execOp a.eval o).run P w) := by
  simp only [astep, ho] at h
  split at h
  · rename_i b hb
    cases h
    have hc := hF.ev c
    rw [hb] at hc
    have e : a.eval c = .bool b := by cases hc' : a.eval c <;> rw [hc'] at hc <;> cases hc; rfl
    refine Good.pure hR (v := if b then a.eval x else a.eval y) ?_ ?_
    · simp [execOp, ho, e, asBool]
    · cases b
      · exact hF.ev y
      · exact hF.ev x
  · cases h

theorem VR.ptr_inv {M : Nat → Prop} {id ver off : Nat} {v : Value} (hv : VR w M ρ σ (.ptr id ver off) v) : ∃ ad, v = .pointer (some ad) := by
  cases hv with
  | ptr _ _ _ _ h0 h1 h2 => exact h0

theorem op_nilCheck {o : Oper} {x : Operand} (ho : o.op = .nilCheck x) {fr : Fr} {a : Act} (hR : Rel X ρ σ w) (hF : FR X ρ σ w fr a) {r : AStep} (h : astep T o fr σ = some r) :
    Good X ρ σ w r ((execOp a.eval o).run P w) := by
  simp only [astep, ho] at h
  have hx := hF.ev x
  split at h
  · rename_i id ver off he
    cases h
    rw [he] at hx
    obtain ⟨ad, e⟩ := hx.ptr_inv
    refine Good.pure hR (v := a.eval x) ?_ hx
    simp [execOp, ho, e]
  · rename_i cs he
    cases h
    rw [he] at hx
    refine Good.pure hR (v := a.eval x) ?_ hx
    cases hv : a.eval x <;> rw [hv] at hx <;> cases hx
    simp [execOp, ho, hv]
  · rename_i f u v he
    cases h
    rw [he] at hx
    refine Good.pure hR (v := a.eval x) ?_ hx
    cases hv : a.eval x <;> rw [hv] at hx <;> cases hx
    simp [execOp, ho, hv]
  · cases h

/-! Numbers and strings -/

theorem VR.int_inv {M : Nat → Prop} {k : IntKind} {n : Int} {v : Value} (h : VR w M ρ σ (.int k n) v) : v = .int k n := by cases h; rfl
theorem VR.bool_inv {M : Nat → Prop} {b : Bool} {v : Value} (h : VR w M ρ σ (.bool b) v) : v = .bool b := by cases h; rfl
theorem VR.str_inv {M : Nat → Prop} {s : List UInt8} {v : Value} (h : VR w M ρ σ (.str s) v) : v = .string ⟨s.toArray⟩ := by
  cases h with
  | str _ bs h => subst h; rfl

theorem intBin_sound {op : BinOp} {t : TypeId} {k : IntKind} {a b : Int} {c : AV} (h : intBin op k a b = some c) :
    ∃ v, (binOp op t (.int k a) (.int k b)).run P w = .ok v w ∧ ∀ M, VR w M ρ σ c v := by
  cases op
  case quo =>
    simp only [intBin] at h
    by_cases hb : b = 0
    · rw [if_pos hb] at h; cases h
    · rw [if_neg hb] at h; cases h
      exact ⟨_, by simp only [binOp, ne_eq, not_true_eq_false, if_false, Op.intDiv]; rw [if_neg hb]; rfl, fun _ => .int _ _⟩
  case rem =>
    simp only [intBin] at h
    by_cases hb : b = 0
    · rw [if_pos hb] at h; cases h
    · rw [if_neg hb] at h; cases h
      exact ⟨_, by simp only [binOp, ne_eq, not_true_eq_false, if_false, Op.intDiv]; rw [if_neg hb]; rfl, fun _ => .int _ _⟩
  case shl => cases h
  case shr => cases h
  all_goals
    simp only [intBin, ofB, Option.some.injEq] at h
    subst h
    exact ⟨_, by simp only [binOp, ne_eq, not_true_eq_false, if_false]; rfl, fun _ => by first | exact .int _ _ | exact .bool _⟩

theorem strBin_sound {op : BinOp} {t : TypeId} {a b : List UInt8} {c : AV} (h : strBin op a b = some c) :
    ∃ v, (binOp op t (.string ⟨a.toArray⟩) (.string ⟨b.toArray⟩)).run P w = .ok v w ∧ ∀ M, VR w M ρ σ c v := by
  cases op
  case add =>
    simp only [strBin] at h
    by_cases hl : a.length + b.length ≤ 9223372036854775807
    · rw [if_pos hl] at h; cases h
      have hs : ¬ ((((⟨a.toArray⟩ : ByteArray).size + (⟨b.toArray⟩ : ByteArray).size : Nat) : Int) > IntKind.i64.max) := by
        have e : IntKind.i64.max = 9223372036854775807 := by decide
        have e1 : (⟨a.toArray⟩ : ByteArray).size = a.length := by simp [ByteArray.size]
        have e2 : (⟨b.toArray⟩ : ByteArray).size = b.length := by simp [ByteArray.size]
        rw [e, e1, e2]; omega
      refine ⟨.string (⟨a.toArray⟩ ++ ⟨b.toArray⟩), ?_, fun _ => .str _ _ (by simp)⟩
      simp only [binOp, Op.stringOp]
      rw [if_neg hs]; rfl
    · rw [if_neg hl] at h; cases h
  all_goals first
    | (cases h; done)
    | (simp only [strBin, ofB, Option.some.injEq] at h
       subst h
       exact ⟨_, by simp only [binOp, Op.stringOp, ByteArray.toList_mk]; rfl, fun _ => by exact .bool _⟩)

end Go.Am
