/- A pure account of the values, floats and memory of a run, and how it stands to the model's (part 3: the pure evaluator). Conditions: none. -/
import Derived.Test.YtgjdkhocnnoimaaS2
namespace Go.Sim
open Go

abbrev Env := List (Nat × Value)

def look (t : Nat) : Env → Option Value
  | [] => none
  | (u, v) :: r => bif Nat.beq t u then some v else look t r

def ins (t : Nat) (v : Value) : Env → Env
  | [] => [(t, v)]
  | (u, x) :: r => bif Nat.beq t u then (t, v) :: r else bif Nat.ble t u then (t, v) :: (u, x) :: r else (u, x) :: ins t v r

structure St where
  tm : Env
  hp : Heap

/-- What is told to the evaluator: how a test comes out; a number; a call's result and the memory behind it; a call of a function without a body; a loop's end; rows. -/
inductive Orc where
  | b (t : Bool)
  | n (k : Nat)
  | c (m : List (Nat × Bool)) (v : Value) (hl : Heap)
  | x (v : Value)
  | l (keep m : List Nat) (e : Exit) (tm : Env) (hp : Heap)
  | q (m : Nat) (f : Option Nat)
  | g (f : Nat → List HC)

def plain1 : Value → Bool
  | .bool _ => true
  | .int _ _ => true
  | .float k b => !isN k b && Nat.blt b (2 ^ k.format.width)
  | .complex k a b => !isN k a && Nat.blt a (2 ^ k.format.width) && !isN k b && Nat.blt b (2 ^ k.format.width)
  | .string _ => true
  | .pointer none => true
  | .slice none 0 0 => true
  | .nilFunc => true
  | _ => false

def allP (p : Value → Bool) : List Value → Bool
  | [] => true
  | v :: l => p v && allP p l

def plain : Value → Bool
  | .agg ⟨l⟩ => allP plain1 l
  | .tuple ⟨l⟩ => allP plain1 l
  | v => plain1 v

def evx (e : Env) : Operand → Option Value
  | .tmp t => look t e
  | .const v => bif plain v then some v else none
  | .func f => some (.func (.func f) ⟨[]⟩ ⟨[]⟩)
  | .global _ => none

def evxs (e : Env) : List Operand → Option (List Value)
  | [] => some []
  | x :: l => match evx e x, evxs e l with
    | some v, some vs => some (v :: vs)
    | _, _ => none

/-- A number lies within its kind. -/
def inR (k : IntKind) (n : Int) : Prop := k.min ≤ n ∧ n ≤ k.max

/-! ### The operators -/

def evInt (op : BinOp) (k : IntKind) (a b : Int) : Option (Value × List Prop) :=
  match op with
  | .add => bif k.signed then some (.int k (a + b), [inR k (a + b)]) else some (.int k (k.wrap (a + b)), [])
  | .sub => bif k.signed then some (.int k (a - b), [inR k (a - b)]) else some (.int k (k.wrap (a - b)), [])
  | .mul => bif k.signed then some (.int k (a * b), [inR k (a * b)]) else some (.int k (k.wrap (a * b)), [])
  | .quo => some (.int k (a.tdiv b), [b ≠ 0, inR k (a.tdiv b)])
  | .rem => some (.int k (a.tmod b), [b ≠ 0])
  | .and => some (.int k (k.wrap ((BitVec.ofInt k.bits a &&& BitVec.ofInt k.bits b).toNat)), [])
  | .or => some (.int k (k.wrap ((BitVec.ofInt k.bits a ||| BitVec.ofInt k.bits b).toNat)), [])
  | .xor => some (.int k (k.wrap ((BitVec.ofInt k.bits a ^^^ BitVec.ofInt k.bits b).toNat)), [])
  | .eql => some (.bool (a == b), [])
  | .neq => some (.bool (a != b), [])
  | .lss => some (.bool (decide (a < b)), [])
  | .leq => some (.bool (decide (a ≤ b)), [])
  | .gtr => some (.bool (decide (a > b)), [])
  | .geq => some (.bool (decide (a ≥ b)), [])
  | .shr => some (.int k (a.fdiv (2 ^ min b.toNat k.bits)), [0 ≤ b])
  | .shl => some (.int k (k.wrap (a * 2 ^ min b.toNat k.bits)), [0 ≤ b])
  | .andNot => some (.int k (k.wrap ((BitVec.ofInt k.bits a &&& ~~~BitVec.ofInt k.bits b).toNat)), [])

def isArith : BinOp → Bool
  | .add | .sub | .mul | .quo => true
  | _ => false

def isCmp : BinOp → Bool
  | .eql | .neq | .lss | .leq | .gtr | .geq => true
  | _ => false

def evStr (op : BinOp) (x y : ByteArray) : Option Value :=
  match op with
  | .eql => some (.bool (x.toList == y.toList))
  | .neq => some (.bool (!(x.toList == y.toList)))
  | .lss => some (.bool (Op.bytesLess x.toList y.toList))
  | .leq => some (.bool (Op.bytesLess x.toList y.toList || x.toList == y.toList))
  | .gtr => some (.bool (!(Op.bytesLess x.toList y.toList || x.toList == y.toList)))
  | .geq => some (.bool (!(Op.bytesLess x.toList y.toList)))
  | _ => none

def isBoolT (P : Program) (t : TypeId) : Bool :=
  match P.underlying t with
  | some .bool => true
  | _ => false

def sameI : IntKind → IntKind → Bool
  | .i8, .i8 | .i16, .i16 | .i32, .i32 | .i64, .i64 | .u8, .u8 | .u16, .u16 | .u32, .u32 | .u64, .u64 => true
  | _, _ => false
def sameF : FloatKind → FloatKind → Bool
  | .f32, .f32 | .f64, .f64 => true
  | _, _ => false

def isShift : BinOp → Bool
  | .shl | .shr => true
  | _ => false

def isSliceT (P : Program) (t : TypeId) : Bool :=
  match P.underlying t with
  | some (.slice _) => true
  | _ => false

def evBin (P : Program) (op : BinOp) (t : TypeId) (x y : Value) : Option (Value × List Prop) :=
  match x, y with
  | .int k a, .int k' b => bif isShift op || sameI k k' then evInt op k a b else none
  | .float k a, .float k' b => bif sameF k k' then
      (bif isArith op then some (.float k (fop op k a b), []) else bif isCmp op then some (.bool (fcmp op k a b), []) else none) else none
  | .complex k a b, .complex k' c d => bif sameF k k' then
      match op with
      | .add => some (.complex k (fop .add k a c) (fop .add k b d), [])
      | .sub => some (.complex k (fop .sub k a c) (fop .sub k b d), [])
      | .eql => some (.bool (fcmp .eql k a c && fcmp .eql k b d), [])
      | .neq => some (.bool (!(fcmp .eql k a c && fcmp .eql k b d)), [])
      | _ => none
      else none
  | .string a, .string b => (evStr op a b).map fun v => (v, [])
  | .bool a, .bool b => bif isBoolT P t then
      match op with
      | .eql => some (.bool (a == b), [])
      | .neq => some (.bool (!(a == b)), [])
      | _ => none
      else none
  | .slice (some _) l c, .slice none 0 0 => bif isSliceT P t then
      match op with
      | .eql => some (.bool false, bif Nat.beq c 2 then [] else [0 < l])
      | .neq => some (.bool true, bif Nat.beq c 2 then [] else [0 < l])
      | _ => none
      else none
  | .slice none 0 0, .slice none 0 0 => bif isSliceT P t then
      match op with
      | .eql => some (.bool true, [])
      | .neq => some (.bool false, [])
      | _ => none
      else none
  | _, _ => none

def fneg (k : FloatKind) (x : Nat) : Nat := if isN k x then cNaN k else Op.negFloat k x

def evUn (op : UnOp) (x : Value) : Option (Value × List Prop) :=
  match op, x with
  | .not, .bool b => some (.bool (!b), [])
  | .neg, .int k n => some (.int k (0 - n), [inR k (0 - n)])
  | .neg, .float k x => some (.float k (fneg k x), [])
  | .neg, .complex k x y => some (.complex k (fneg k x) (fneg k y), [])
  | _, _ => none

/-! ### Conversions -/

/-- A float of the other kind; of a not-a-number the one. -/
def fconv (s d : FloatKind) (x : Nat) : Nat := match s, d with
  | .f32, .f32 => x
  | .f64, .f64 => x
  | s, d => match s.decode x with
    | .nan _ _ => cNaN d
    | dt => d.encode dt

def fcv (s d : FloatKind) (x : Nat) : Nat := canon d (fconv s d x)

/-- The language fixes what a float of the other kind is: it is not a finite number that is too great. -/
@[irreducible] def fconvOk (s d : FloatKind) (x : Nat) : Prop := match s.decode x with
  | .number sg m e => (d.decode (d.encode (.number sg m e))).isInfinity = false
  | _ => True

def f2i (s : FloatKind) (x : Nat) (k : IntKind) : Option Int := floatToIntVal s x k

def evConv (P : Program) (src dst : TypeId) (x : Value) : Option (Value × List Prop) :=
  match P.underlying src, P.underlying dst, x with
  | some _, some (.int k), .int ks n => bif sameI ks .u64 && sameI k .i64 then some (.int k (k.wrap n), []) else some (.int k n, [inR k n])
  | some _, some (.float k), .int _ n => some (.float k (canon k (k.nearest n)), [])
  | some _, some (.int k), .float s b => some (.int k ((f2i s b k).getD 0), [(f2i s b k).isSome = true])
  | some _, some (.float k), .float s b =>
    match s, k with
    | .f32, .f32 => some (.float .f32 b, [])
    | .f64, .f64 => some (.float .f64 b, [])
    | .f32, .f64 => some (.float .f64 (fcv .f32 .f64 b), [])
    | .f64, .f32 => some (.float .f32 (fcv .f64 .f32 b), [fconvOk .f64 .f32 b])
  | some _, some .string, .string s => some (.string s, [])
  | some _, some (.complex k), .complex s a b =>
    match s, k with
    | .f32, .f32 => some (.complex .f32 a b, [])
    | .f64, .f64 => some (.complex .f64 a b, [])
    | .f32, .f64 => some (.complex .f64 (fcv .f32 .f64 a) (fcv .f32 .f64 b), [])
    | .f64, .f32 => some (.complex .f32 (fcv .f64 .f32 a) (fcv .f64 .f32 b), [fconvOk .f64 .f32 a, fconvOk .f64 .f32 b])
  | _, _, _ => none

/-! ### Memory -/

def nth {α : Type} : List α → Nat → Option α
  | [], _ => none
  | x :: _, 0 => some x
  | _ :: l, n + 1 => nth l n

def blkAt (H : Heap) (b : Nat) : Option Blk :=
  match nth H b with
  | some (some x) => some x
  | _ => none

def setAt {α : Type} : List α → Nat → α → List α
  | [], _, _ => []
  | _ :: l, 0, y => y :: l
  | x :: l, n + 1, y => x :: setAt l n y

/-- Row 'r' is there: what is to be shown for it. -/
def Cont.inb (c : Cont) (r : Nat) : Option (List Prop) :=
  match c with
  | .vs _ => bif Nat.beq r 0 then some [] else none
  | .fl _ xs => some [r < xs.length]
  | .it _ xs => some [r < xs.length]
  | .cx _ xs => some [r < xs.length]
  | .fn n _ _ => some [r < n]
  | .nst n _ _ _ => some [r < n]

def takeN {α : Type} : Nat → List α → Option (List α)
  | 0, _ => some []
  | _ + 1, [] => none
  | n + 1, x :: l => (takeN n l).map (x :: ·)

def dropN {α : Type} : Nat → List α → List α
  | 0, l => l
  | _ + 1, [] => []
  | n + 1, _ :: l => dropN n l

def isAggT (P : Program) (t : TypeId) : Option Bool :=
  match P.underlying t with
  | some (.struct _) => some true
  | some (.array _ _) => some true
  | some _ => some false
  | none => none

def evLoad (P : Program) (H : Heap) (t : TypeId) (x : Value) : Option (Value × List Prop) :=
  match x with
  | .pointer (some ⟨b, r, some j⟩) =>
    match blkAt H b, isAggT P t with
    | some blk, some agg =>
      match blk.c.inb r with
      | some vc =>
        bif agg then
          match takeN (P.cellsOf t) (dropN j (blk.c.row r)) with
          | some cs => some (.agg ⟨cs⟩, vc)
          | none => none
        else match nth (blk.c.row r) j with
          | some v => some (v, vc)
          | none => none
      | none => none
    | _, _ => none
  | _ => none

def splice {α : Type} (l : List α) (j : Nat) (us : List α) : List α := l.take j ++ us ++ l.drop (j + us.length)

def one1 : Value → Bool
  | .agg _ | .tuple _ => false
  | _ => true

/-- The cells of a value. -/
def cellsV : Value → List Value
  | .agg ⟨cs⟩ => cs
  | v => [v]

def scOf : Value → Option Sc
  | .bool t => some (.b t)
  | .int k n => some (.i k n)
  | .float k x => some (.f k x)
  | .string t => some (.s t)
  | _ => none

def scsOf : List Value → Option (List Sc)
  | [] => some []
  | v :: l => match scOf v, scsOf l with
    | some s, some ss => some (s :: ss)
    | _, _ => none

def Cont.put (c : Cont) (r j : Nat) (us : List Value) : Option Cont :=
  match c with
  | .fl k xs => match us with
    | [.float k' x] => bif sameF k k' && Nat.beq j 0 then some (.fl k (xs.set r x)) else none
    | _ => none
  | .it k xs => match us with
    | [.int k' x] => bif sameI k k' && Nat.beq j 0 then some (.it k (xs.set r x)) else none
    | _ => none
  | .cx k xs => match us with
    | [.complex k' x y] => bif sameF k k' && Nat.beq j 0 then some (.cx k (xs.set r (x, y))) else none
    | _ => none
  | .vs l => bif Nat.ble (j + us.length) l.length then some (.vs (splice l j us)) else none
  | .fn n sz g => match scsOf us with
    | some ss => bif Nat.ble (j + ss.length) sz then some (.fn n sz (fun i => bif Nat.beq i r then splice (g i) j ss else g i)) else none
    | none => none
  | .nst _ _ _ _ => none

def evStore (P : Program) (H : Heap) (t : TypeId) (x v : Value) : Option (Heap × List Prop) :=
  match x with
  | .pointer (some ⟨b, r, some j⟩) =>
    match blkAt H b with
    | some blk =>
      bif blk.own && allP one1 (cellsV v) && Nat.beq (cellsV v).length (P.cellsOf t) && (P.info? t).isSome then
        match blk.c.inb r, blk.c.put r j (cellsV v) with
        | some vc, some c => some (setAt H b (some ⟨true, c⟩), vc)
        | _, _ => none
      else none
    | none => none
  | _ => none

/-- 'n' rows of zeros. -/
def zeros (z : Value) (n : Nat) : Option Cont :=
  match z with
  | .float k x => bif plain1 (.float k x) then some (.fl k (List.replicate n x)) else none
  | .int k x => some (.it k (List.replicate n x))
  | .complex k x y => bif plain1 (.complex k x y) then some (.cx k (List.replicate n (x, y))) else none
  | .agg ⟨cs⟩ => match scsOf cs with
    | some ss => bif allP plain1 cs then some (.fn n ss.length (fun _ => ss)) else none
    | none => none
  | _ => none

def sizeOk (P : Program) (t : TypeId) (n : Nat) : Bool :=
  match P.info? t with
  | some i => Nat.beq i.size n
  | none => false

def evMake (P : Program) (H : Heap) (t : TypeId) (l c : Value) (n : Nat) : Option (Value × Heap × List Prop) :=
  match P.underlying t, l, c with
  | some (.slice el), .int _ a, .int _ b =>
    match P.info? el with
    | some i => match i.zero with
      | some z => match zeros z n with
        | some ct => bif Nat.beq i.size (cellsV z).length && Nat.blt 0 i.size then
            some (.slice (some ⟨H.length, 0, none⟩) n 1, H ++ [some ⟨true, ct⟩], [a = (n : Int), a ≤ b, b * (i.bytes : Int) ≤ 140737488355328, b ≤ 140737488355328])
          else none
        | none => none
      | none => none
    | none => none
  | _, _, _ => none

/-! Rows that hold a slice. -/

def hc0 : Value → Option HC
  | .slice none 0 0 => some (.r [])
  | v => (scOf v).map .c

def hcs0 : List Value → Option (List HC)
  | [] => some []
  | v :: l => match hc0 v, hcs0 l with
    | some h, some r => some (h :: r)
    | _, _ => none

def zerosN (z : Value) (n : Nat) : Option Cont :=
  bif allP plain1 (cellsV z) && allP one1 (cellsV z) then (hcs0 (cellsV z)).map fun hs => .nst n hs.length (fun _ => hs) [] else none

def evMakeN (P : Program) (H : Heap) (t : TypeId) (l c : Value) (n : Nat) : Option (Value × Heap × List Prop) :=
  match P.underlying t, l, c with
  | some (.slice el), .int _ a, .int _ b =>
    match P.info? el with
    | some i => match i.zero with
      | some z => match zerosN z n with
        | some ct => bif Nat.beq i.size (cellsV z).length && Nat.blt 0 i.size then
            some (.slice (some ⟨H.length, 0, none⟩) n 1, H ++ [some ⟨true, ct⟩], [a = (n : Int), a ≤ b, b * (i.bytes : Int) ≤ 140737488355328, b ≤ 140737488355328])
          else none
        | none => none
      | none => none
    | none => none
  | _, _, _ => none

/-- A row that takes a slice's block over, one at most: the row, that block. -/
def hideL (H : Heap) : List Value → Option (List HC × Option Nat × List Prop)
  | [] => some ([], none, [])
  | .slice (some ⟨k, 0, none⟩) l _ :: r => match blkAt H k, hideL H r with
    | some ⟨true, .fl .f32 xs⟩, some (hs, none, vc) => some (.r xs :: hs, some k, (l = xs.length) :: vc)
    | _, _ => none
  | .slice none 0 0 :: r => match hideL H r with
    | some (hs, k, vc) => some (.r [] :: hs, k, vc)
    | none => none
  | v :: r => match scOf v, hideL H r with
    | some s, some (hs, k, vc) => some (.c s :: hs, k, vc)
    | _, _ => none

def killO (H : Heap) : Option Nat → Heap
  | none => H
  | some k => setAt H k none

def neO (b : Nat) : Option Nat → Bool
  | none => true
  | some k => !Nat.beq b k

def evStoreN (P : Program) (H : Heap) (t : TypeId) (x v : Value) : Option (Heap × List Prop) :=
  match x with
  | .pointer (some ⟨b, r, some 0⟩) =>
    match blkAt H b with
    | some ⟨true, .nst n sz g _⟩ =>
      bif allP one1 (cellsV v) && Nat.beq (cellsV v).length (P.cellsOf t) && (P.info? t).isSome && Nat.beq (cellsV v).length sz then
        match hideL H (cellsV v) with
        | some (hs, k, vc) => bif neO b k then some (setAt (killO H k) b (some ⟨true, .nst n sz (fun i => bif Nat.beq i r then hs else g i) []⟩), (r < n) :: vc) else none
        | none => none
      else none
    | _ => none
  | _ => none

/-- A scalar of a row is written. -/
def setHC (s : Sc) : Nat → List HC → Option (List HC)
  | _, [] => none
  | 0, .c _ :: l => some (.c s :: l)
  | 0, .r _ :: _ => none
  | j + 1, h :: l => (setHC s j l).map (h :: ·)

def evStoreC (P : Program) (H : Heap) (t : TypeId) (x v : Value) (f : Nat → List HC) : Option (Heap × List Prop) :=
  match x with
  | .pointer (some ⟨b, r, some j⟩) =>
    match blkAt H b with
    | some ⟨true, .nst n sz g _⟩ =>
      bif Nat.beq (P.cellsOf t) 1 && (P.info? t).isSome then
        match scOf v with
        | some s => match setHC s j (g r) with
          | some hs => some (setAt H b (some ⟨true, .nst n sz f []⟩), [r < n, ∀ i, f i = bif Nat.beq i r then hs else g i])
          | none => none
        | none => none
      else none
    | _ => none
  | _ => none

/-- Row number from a row and a further one. -/
def rowAdd (r n : Nat) : Nat := bif Nat.beq r 0 then n else r + n

def evIndexAddr (P : Program) (H : Heap) (t : TypeId) (x ix : Value) (n : Nat) : Option (Value × List Prop) :=
  match P.underlying t, x, ix with
  | some (.slice el), .slice (some ⟨b, r, none⟩) l _, .int _ i =>
    match blkAt H b with
    | some blk => bif sizeOk P el blk.c.sz then
        match blk.c.vias with
        | [] => some (.pointer (some ⟨b, rowAdd r n, some 0⟩), [i = (n : Int), n < l])
        | v :: vs => match nth (v :: vs) n with
          | some (r', k) => some (.pointer (some ⟨k, 0, some 0⟩), bif Nat.beq r 0 then [i = (r' : Int), r' < l] else [(r : Int) + i = (r' : Int), r ≤ r', r' - r < l])
          | none => none
        else none
    | none => none
  | _, _, _ => none

def fieldOf (P : Program) (t : TypeId) (f : Nat) : Option Field :=
  match P.underlying t with
  | some (.struct ⟨fs⟩) => nth fs f
  | _ => none

def evFieldAddr (P : Program) (t : TypeId) (x : Value) (f : Nat) : Option Value :=
  match fieldOf P t f, x with
  | some fd, .pointer (some ⟨b, r, some j⟩) =>
    match P.info? fd.type with
    | some i => bif Nat.beq i.size 0 then none else some (.pointer (some ⟨b, r, some (j + fd.offset)⟩))
    | none => none
  | _, _ => none

def evField (P : Program) (t : TypeId) (x : Value) (f : Nat) : Option Value :=
  match fieldOf P t f, x with
  | some fd, .agg ⟨cs⟩ =>
    match isAggT P fd.type with
    | some true => (takeN (P.cellsOf fd.type) (dropN fd.offset cs)).map fun l => .agg ⟨l⟩
    | some false => nth cs fd.offset
    | none => none
  | _, _ => none

/-- A struct out of its fields: places, values. -/
def fillV (P : Program) (fs : List Field) (cells : List Value) : List (Nat × Value) → Option (List Value)
  | [] => some cells
  | (i, v) :: rest => match nth fs i with
    | some fd => bif Nat.beq (cellsV v).length (P.cellsOf fd.type) && Nat.ble (fd.offset + (cellsV v).length) cells.length && (P.info? fd.type).isSome
      then fillV P fs (splice cells fd.offset (cellsV v)) rest else none
    | none => none

def evParts (e : Env) : List (Nat × Operand) → Option (List (Nat × Value))
  | [] => some []
  | (i, x) :: l => match evx e x, evParts e l with
    | some v, some r => some ((i, v) :: r)
    | _, _ => none

def evBuild (P : Program) (t : TypeId) (parts : List (Nat × Value)) : Option Value :=
  match P.underlying t, P.info? t with
  | some (.struct ⟨fs⟩), some i => match i.zero with
    | some (.agg ⟨z⟩) => bif allP plain1 z && allInfo P fs then (fillV P fs z parts).map fun l => .agg ⟨l⟩ else none
    | _ => none
  | _, _ => none
where
  allInfo (P : Program) : List Field → Bool
    | [] => true
    | fd :: l => (P.info? fd.type).isSome && allInfo P l

/-- The content of a slice literal's block, by the kind of its values. -/
def litCont : List Value → Option Cont
  | [] => none
  | .float k x :: l => (go k l).map fun r => .fl k (x :: r)
  | .int k x :: l => (goI k l).map fun r => .it k (x :: r)
  | .complex k x y :: l => (goC k l).map fun r => .cx k ((x, y) :: r)
  | .agg ⟨cs⟩ :: [] => (scsOf cs).map fun ss => .fn 1 ss.length (fun _ => ss)
  | _ => none
where
  go (k : FloatKind) : List Value → Option (List Nat)
    | [] => some []
    | .float k' x :: l => bif sameF k k' then (go k l).map (x :: ·) else none
    | _ => none
  goI (k : IntKind) : List Value → Option (List Int)
    | [] => some []
    | .int k' x :: l => bif sameI k k' then (goI k l).map (x :: ·) else none
    | _ => none
  goC (k : FloatKind) : List Value → Option (List (Nat × Nat))
    | [] => some []
    | .complex k' x y :: l => bif sameF k k' then (goC k l).map ((x, y) :: ·) else none
    | _ => none

/-- The parts of a slice literal stand in order and leave no place out. -/
def inOrder : Nat → List (Nat × Value) → Option (List Value)
  | _, [] => some []
  | k, (i, v) :: l => bif Nat.beq i k then (inOrder (k + 1) l).map (v :: ·) else none

/-- An empty block, by a type's zero value. -/
def emptyCont (z : Value) : Option Cont := zeros z 0

def evBuildSlice (P : Program) (H : Heap) (t : TypeId) (len : Nat) (parts : List (Nat × Value)) : Option (Value × Heap) :=
  match P.underlying t with
  | some (.slice el) => match P.info? el, inOrder 0 parts with
    | some i, some vs => bif Nat.beq vs.length len && Nat.ble (len * i.size) 16777216 && Nat.blt 0 i.size then
        match len with
        | 0 => match i.zero with
          | some z => match emptyCont z with
            | some ct => bif Nat.beq ct.sz i.size then some (.slice (some ⟨H.length, 0, none⟩) 0 0, H ++ [some ⟨true, ct⟩]) else none
            | none => none
          | none => none
        | _ + 1 => match litCont vs with
          | some ct => bif Nat.beq ct.sz i.size && i.zero.isSome && Nat.beq (i.zero.getD undef).cells.size i.size then
              some (.slice (some ⟨H.length, 0, none⟩) len 1, H ++ [some ⟨true, ct⟩]) else none
          | none => none
      else none
    | _, _ => none
  | _ => none

/-- A literal of one row that holds a slice, or of none. -/
def evBuildSliceN (P : Program) (H : Heap) (t : TypeId) (len : Nat) (parts : List (Nat × Value)) : Option (Value × Heap × List Prop) :=
  match P.underlying t with
  | some (.slice el) => match P.info? el, inOrder 0 parts with
    | some i, some vs => bif Nat.beq vs.length len && Nat.ble (len * i.size) 16777216 && Nat.blt 0 i.size && i.zero.isSome && Nat.beq (i.zero.getD undef).cells.size i.size then
        match vs with
        | [] => match zerosN (i.zero.getD undef) 0 with
          | some ct => bif Nat.beq ct.sz i.size then some (.slice (some ⟨H.length, 0, none⟩) 0 0, H ++ [some ⟨true, ct⟩], []) else none
          | none => none
        | [v] => match hideL H (cellsV v) with
          | some (hs, k, vc) => bif Nat.beq hs.length i.size && allP one1 (cellsV v) then
              some (.slice (some ⟨H.length, 0, none⟩) 1 1, killO H k ++ [some ⟨true, .nst 1 hs.length (fun _ => hs) []⟩], vc) else none
          | none => none
        | _ => none
      else none
    | _, _ => none
  | _ => none

/-- 'x[lo:hi]' and 'x[lo:hi:max]'; a bound that is there is told as a number. -/
def evSlice (P : Program) (H : Heap) (t : TypeId) (x : Value) (lo hi mx : Option Value) (nlo nhi : Nat) : Option (Value × List Prop) :=
  match P.underlying t, x with
  | some (.slice el), .slice (some ⟨b, r, none⟩) l _ =>
    match blkAt H b with
    | some blk => bif sizeOk P el blk.c.sz then
        match bound lo nlo 0, bound hi nhi l, hi, mx with
        | some vl, some vh, _, none => some (.slice (some ⟨b, rowAdd r nlo, none⟩) (nhi - nlo) 1, vl ++ vh ++ [nlo ≤ nhi, nhi ≤ l])
        | some vl, some vh, some _, some (.int _ m) => some (.slice (some ⟨b, rowAdd r nlo, none⟩) (nhi - nlo) 0, vl ++ vh ++ [nlo = nhi, nhi ≤ l, m = (nlo : Int)])
        | _, _, _, _ => none
      else none
    | none => none
  | _, _ => none
where
  bound (v : Option Value) (n dflt : Nat) : Option (List Prop) :=
    match v with
    | some (.int _ i) => some [i = (n : Int)]
    | none => some [n = dflt]
    | _ => none

/-- Rows 'r' to 'r + n - 1' of a content. -/
def Cont.cut (c : Cont) (r n : Nat) : Option (Cont × List Prop) :=
  match c with
  | .fl k xs => bif Nat.beq r 0 then some (.fl k xs, [n = xs.length]) else none
  | .it k xs => bif Nat.beq r 0 then some (.it k xs, [n = xs.length]) else none
  | .cx k xs => bif Nat.beq r 0 then some (.cx k xs, [n = xs.length]) else none
  | .fn m sz g => bif Nat.beq r 0 then some (.fn m sz g, [n = m]) else none
  | .vs _ => none
  | .nst _ _ _ _ => none

/-- Rows somewhere within a content. -/
def Cont.part (c : Cont) (r n : Nat) : Option (Cont × List Prop) :=
  match c with
  | .fl k xs => some (.fl k ((xs.drop r).take n), [r + n ≤ xs.length])
  | .it k xs => some (.it k ((xs.drop r).take n), [r + n ≤ xs.length])
  | .cx k xs => some (.cx k ((xs.drop r).take n), [r + n ≤ xs.length])
  | _ => none

def Cont.app (c d : Cont) : Option Cont :=
  match c, d with
  | .fl k xs, .fl k' ys => bif sameF k k' then some (.fl k (xs ++ ys)) else none
  | .it k xs, .it k' ys => bif sameI k k' then some (.it k (xs ++ ys)) else none
  | .cx k xs, .cx k' ys => bif sameF k k' then some (.cx k (xs ++ ys)) else none
  | .fn n sz g, .fn n' sz' g' => bif Nat.beq sz sz' then some (.fn (n + n') sz (fun i => bif Nat.blt i n then g i else g' (i - n))) else none
  | _, _ => none

/-- What is appended: a slice's rows ('whole': all rows of its block). -/
def srcCont (H : Heap) (x : Value) (whole : Bool) : Option (Cont × Nat × List Prop) :=
  match x with
  | .slice (some ⟨b, r, none⟩) n _ => match blkAt H b with
    | some blk => match (bif whole then blk.c.cut r n else blk.c.part r n) with
      | some (c, vc) => some (c, n, vc)
      | none => none
    | none => none
  | _ => none

/-- 'append(s, x...)': a slice that has no room gives a new block; else its block is taken over whole. -/
def evAppend (P : Program) (H : Heap) (t : TypeId) (s x : Value) (whole : Bool) : Option (Value × Heap × List Prop) :=
  match P.underlying t, srcCont H x whole with
  | some (.slice el), some (cx, n, vc) =>
    match P.info? el with
    | some i => bif Nat.beq cx.sz i.size && Nat.blt 0 i.size && Nat.ble i.bytes 1024 && i.zero.isSome && Nat.beq (i.zero.getD undef).cells.size i.size && allP one1 (cellsV (i.zero.getD undef)) then
        match s with
        | .slice none 0 0 => some (.slice (some ⟨H.length, 0, none⟩) n 1, H ++ [some ⟨true, cx⟩], vc ++ [n ≤ 1073741824])
        | .slice (some ⟨b, r, none⟩) l c =>
          bif Nat.beq c 0 && Nat.beq l 0 then some (.slice (some ⟨H.length, 0, none⟩) n 1, H ++ [some ⟨true, cx⟩], vc ++ [n ≤ 1073741824])
          else match blkAt H b with
          | some blk => bif blk.own then
              match blk.c.cut r l with
              | some (cs, vc') => match cs.app cx with
                | some c => some (.slice (some ⟨H.length, 0, none⟩) (l + n) 1, setAt H b none ++ [some ⟨true, c⟩], vc ++ vc' ++ [l + n ≤ 1073741824])
                | none => none
              | none => none
              else none
          | none => none
        | _ => none
      else none
    | none => none
  | _, _ => none

/-- 'append(s, x...)' of rows that hold slices: both are taken over. -/
def evAppendN (P : Program) (H : Heap) (t : TypeId) (s x : Value) : Option (Value × Heap × List Prop) :=
  match P.underlying t, x with
  | some (.slice el), .slice (some ⟨bx, 0, none⟩) n _ =>
    match P.info? el, blkAt H bx with
    | some i, some ⟨true, .nst m sz gx _⟩ =>
      bif Nat.beq sz i.size && Nat.blt 0 i.size && Nat.ble i.bytes 1024 && i.zero.isSome && Nat.beq (i.zero.getD undef).cells.size i.size && allP one1 (cellsV (i.zero.getD undef)) then
        match s with
        | .slice none 0 0 => some (.slice (some ⟨H.length, 0, none⟩) n 1, setAt H bx none ++ [some ⟨true, .nst m sz gx []⟩], [n = m, n ≤ 1073741824])
        | .slice (some ⟨b, 0, none⟩) l _ =>
          match blkAt H b with
          | some ⟨true, .nst m' sz' g _⟩ => bif Nat.beq sz' sz && !Nat.beq b bx then
              some (.slice (some ⟨H.length, 0, none⟩) (l + n) 1, setAt (setAt H b none) bx none ++ [some ⟨true, .nst (m' + m) sz (fun i => bif Nat.blt i m' then g i else gx (i - m')) []⟩], [n = m, l = m', l + n ≤ 1073741824])
              else none
          | _ => none
        | _ => none
      else none
    | _, _ => none
  | _, _ => none

/-- 'copy(d, x)': of a whole slice, into a block that is whole and has as many rows at least. -/
def evCopy (P : Program) (H : Heap) (t : TypeId) (d x : Value) : Option (Value × Heap × List Prop) :=
  match P.underlying t, srcCont H x true, d with
  | some (.slice el), some (cx, n, vc), .slice (some ⟨b, r, none⟩) l _ =>
    match P.info? el, blkAt H b with
    | some i, some blk => bif Nat.beq cx.sz i.size && Nat.blt 0 i.size && blk.own then
        match blk.c.cut r l, blk.c.part n (l - n) with
        | some (_, vc1), some (cr, vc2) => match cx.app cr with
          | some c => some (.int .i64 (n : Int), setAt H b (some ⟨true, c⟩), vc ++ vc1 ++ vc2 ++ [n ≤ l, 0 < l])
          | none => none
        | _, _ => none
        else none
    | _, _ => none
  | _, _, _ => none

def evLen (P : Program) (t : TypeId) (x : Value) : Option Value :=
  match P.underlying t, x with
  | some (.slice _), .slice _ n _ => some (.int .i64 (n : Int))
  | some .string, .string s => some (.int .i64 (s.size : Int))
  | _, _ => none

/-- The lesser ('false'), the greater ('true') of two floats. -/
def fminmax (mx : Bool) (k : FloatKind) (x y : Nat) : Nat :=
  match k.format.order x y with
  | none => cNaN k
  | some .lt => bif mx then y else x
  | some .gt => bif mx then x else y
  | some .eq => if (k.decode x).neg then (bif mx then y else x) else (bif mx then x else y)

def evMinMax (mx : Bool) (x y : Value) : Option Value :=
  match x, y with
  | .int k a, .int k' b => bif sameI k k' then some (.int k (bif mx then (if b > a then b else a) else (if b < a then b else a))) else none
  | .float k a, .float k' b => bif sameF k k' then some (.float k (fminmax mx k a b)) else none
  | _, _ => none

structure Res where
  v : Value
  hp : Heap
  os : List Orc
  vc : List Prop

def rv (v : Value) (H : Heap) (os : List Orc) (vc : List Prop) : Option Res := some ⟨v, H, os, vc⟩

end Go.Sim
