/- A pure account of the values, floats and memory of a run, and how it stands to the model's (part 4: the pure evaluator of operations and code). Conditions: none. -/
import Derived.Test.YtgjdkhocnnoimaaS3
namespace Go.Sim
open Go

/-! ### Renaming of blocks -/

/-- The place of 'b' in 'm'. -/
def pos (b : Nat) : List Nat → Option Nat
  | [] => none
  | x :: l => bif Nat.beq b x then some 0 else (pos b l).map (· + 1)

/-- The value under new names: block 'm[k]' is called 'k'. -/
def rvI0 (m : List Nat) : Value → Option Value
  | .pointer (some ⟨b, i, s⟩) => match pos b m with
    | some b' => some (.pointer (some ⟨b', i, s⟩))
    | none => none
  | .slice (some ⟨b, i, s⟩) l c => match pos b m with
    | some b' => some (.slice (some ⟨b', i, s⟩) l c)
    | none => none
  | .bool b => some (.bool b)
  | .int k n => some (.int k n)
  | .float k x => some (.float k x)
  | .complex k x y => some (.complex k x y)
  | .string s => some (.string s)
  | .pointer none => some (.pointer none)
  | .slice none l c => some (.slice none l c)
  | .nilFunc => some .nilFunc
  | .tuple ⟨[]⟩ => some (.tuple ⟨[]⟩)
  | _ => none

def mapO {α β : Type} (f : α → Option β) : List α → Option (List β)
  | [] => some []
  | x :: l => match f x, mapO f l with
    | some y, some r => some (y :: r)
    | _, _ => none

def rvI1 (m : List Nat) : Value → Option Value
  | .agg ⟨l⟩ => (mapO (rvI0 m) l).map fun r => .agg ⟨r⟩
  | .func fn ⟨f⟩ ⟨c⟩ => match mapO (rvI0 m) f, mapO (rvI0 m) c with
    | some f', some c' => some (.func fn ⟨f'⟩ ⟨c'⟩)
    | _, _ => none
  | v => rvI0 m v

def rvI (m : List Nat) : Value → Option Value
  | .tuple ⟨l⟩ => (mapO (rvI1 m) l).map fun r => .tuple ⟨r⟩
  | v => rvI1 m v

def Cont.reI (m : List Nat) : Cont → Option Cont
  | .vs l => (mapO (rvI1 m) l).map .vs
  | .nst n sz g _ => some (.nst n sz g [])
  | c => some c

/-- The blocks 'm' of a memory, under their new names; a block may be handed on as one that is only read. -/
def heapIo (m : List Nat) (H : Heap) : List (Nat × Bool) → Option Heap
  | [] => some []
  | (b, o) :: l => match nth H b, heapIo m H l with
    | some (some blk), some r => (blk.c.reI m).map fun c => some ⟨blk.own && o, c⟩ :: r
    | some none, some r => some (none :: r)
    | _, _ => none

def memN (b : Nat) : List Nat → Bool
  | [] => false
  | x :: l => Nat.beq b x || memN b l

/-- A block that is handed on to be written is handed on once. -/
def onceOwn : List (Nat × Bool) → Bool
  | [] => true
  | (b, o) :: l => (!o && !memN b (l.filterMap fun p => bif p.2 then some p.1 else none) || o && !memN b (l.map (·.1))) && onceOwn l

/-- From a callee's name of a block to the caller's. -/
def backN (m : List Nat) (n : Nat) (k : Nat) : Nat :=
  match nth m k with
  | some b => b
  | none => n + (k - m.length)

def rvF0 (f : Nat → Nat) : Value → Option Value
  | .pointer (some ⟨b, i, s⟩) => some (.pointer (some ⟨f b, i, s⟩))
  | .slice (some ⟨b, i, s⟩) l c => some (.slice (some ⟨f b, i, s⟩) l c)
  | .bool b => some (.bool b)
  | .int k n => some (.int k n)
  | .float k x => some (.float k x)
  | .complex k x y => some (.complex k x y)
  | .string s => some (.string s)
  | .pointer none => some (.pointer none)
  | .slice none l c => some (.slice none l c)
  | .nilFunc => some .nilFunc
  | .tuple ⟨[]⟩ => some (.tuple ⟨[]⟩)
  | _ => none

def rvF1 (f : Nat → Nat) : Value → Option Value
  | .agg ⟨l⟩ => (mapO (rvF0 f) l).map fun r => .agg ⟨r⟩
  | .func fn ⟨g⟩ ⟨c⟩ => match mapO (rvF0 f) g, mapO (rvF0 f) c with
    | some f', some c' => some (.func fn ⟨f'⟩ ⟨c'⟩)
    | _, _ => none
  | v => rvF0 f v

def rvF (f : Nat → Nat) : Value → Option Value
  | .tuple ⟨l⟩ => (mapO (rvF1 f) l).map fun r => .tuple ⟨r⟩
  | v => rvF1 f v

def Cont.reF (f : Nat → Nat) : Cont → Option Cont
  | .vs l => (mapO (rvF1 f) l).map .vs
  | .nst n sz g _ => some (.nst n sz g [])
  | c => some c

def blkF (f : Nat → Nat) : Option Blk → Option (Option Blk)
  | none => some none
  | some b => bif b.own || b.c.plainC then (b.c.reF f).map fun c => some ⟨b.own, c⟩ else none

/-- The caller's memory behind a call: blocks that were handed on to be written are as the callee left them; the callee's new ones come behind. -/
def mergeOld (f : Nat → Nat) (H : Heap) : List (Nat × Bool) → Heap → Option Heap
  | [], _ => some H
  | _ :: _, [] => none
  | (b, o) :: l, x :: r =>
    match (match nth H b with | some (some blk) => blk.own && o | _ => false) with
    | true => match blkF f x with
      | some x' => mergeOld f (setAt H b x') l r
      | none => none
    | false => mergeOld f H l r

def allOwn : Heap → Bool
  | [] => true
  | none :: l => allOwn l
  | some b :: l => b.own && allOwn l

def merge (f : Nat → Nat) (H : Heap) (m : List (Nat × Bool)) (hl : Heap) : Option Heap :=
  match mergeOld f H m hl, mapO (blkF f) (dropN m.length hl) with
  | some h, some n => bif Nat.ble m.length hl.length && allOwn (dropN m.length hl) then some (h ++ n) else none
  | _, _ => none

/-! ### Calls -/

section
variable (P : Program)

/-- A call of a function with a body: from these values and this memory to this value and this memory, whatever the tape says. -/
def Ev (f : FuncId) (args : List Value) (H : Heap) (v : Value) (H' : Heap) : Prop :=
  ∀ (ι : List Place) (w : World) (args' : List Value), RH ι H w → VRs ι args args' →
    (callFunc f ⟨args'⟩).run P w = .ok (.enter f ⟨args'⟩) w ∧
    Calls P f ⟨args'⟩ w fun e w' => ∃ ι' v', e = .returned v' ∧ VR ι' v v' ∧ Ext ι H w ι' H' w'

/-- A call of a function of the model's own. -/
def EvX (f : FuncId) (args : List Value) (v : Value) : Prop :=
  ∀ (ι : List Place) (w : World) (args' : List Value), VRs ι args args' →
    ∃ v' w', (callFunc f ⟨args'⟩).run P w = .ok (.value v') w' ∧ Drawn w w' ∧ VR [] v v'

end

/-! ### Operations -/

def opBool (os : List Orc) : Option (Bool × List Orc) :=
  match os with
  | .b t :: r => some (t, r)
  | _ => none
def opNum (os : List Orc) : Option (Nat × List Orc) :=
  match os with
  | .n t :: r => some (t, r)
  | _ => none

def vp (r : Option (Value × List Prop)) (H : Heap) (os : List Orc) : Option Res :=
  match r with
  | some (v, vc) => some ⟨v, H, os, vc⟩
  | none => none

def vo (r : Option Value) (H : Heap) (os : List Orc) : Option Res :=
  match r with
  | some v => some ⟨v, H, os, []⟩
  | none => none

def vh (r : Option (Value × Heap × List Prop)) (os : List Orc) : Option Res :=
  match r with
  | some (v, H, vc) => some ⟨v, H, os, vc⟩
  | none => none

def evOpt (e : Env) : Option Operand → Option (Option Value)
  | none => some none
  | some x => (evx e x).map some

def isStrT (P : Program) (t : TypeId) : Bool :=
  match P.underlying t with
  | some .string => true
  | _ => false

/-- A call through a function value. -/
def evCall (P : Program) (fv : Value) (args : List Value) (H : Heap) (os : List Orc) : Option Res :=
  match fv, os with
  | .func (.func f) ⟨first⟩ ⟨capt⟩, .c m v hl :: r =>
    match mapO (rvI (m.map (·.1))) (first ++ args ++ capt), heapIo (m.map (·.1)) H m, onceOwn m with
    | some cargs, some ch, true =>
      match rvF (backN (m.map (·.1)) H.length) v, merge (backN (m.map (·.1)) H.length) H m hl with
      | some v', some H' => some ⟨v', H', r, [Ev P f cargs ch v hl]⟩
      | _, _ => none
    | _, _, _ => none
  | .func (.func f) ⟨first⟩ ⟨capt⟩, .x v :: r => some ⟨v, H, r, [EvX P f (first ++ args ++ capt) v]⟩
  | _, _ => none

def evBuiltin (P : Program) (b : Builtin) (ts : List TypeId) (args : List Value) (H : Heap) (os : List Orc) : Option Res :=
  match b, ts, args with
  | .len, t :: _, x :: _ => vo (evLen P t x) H os
  | .append, [t, t'], [s, x] => match opBool os with
    | some (whole, r) => bif Nat.beq t t' then (match evAppend P H t s x whole with
      | some y => vh (some y) r
      | none => vh (evAppendN P H t s x) r) else none
    | none => none
  | .copy, t :: _, [d, x] => vh (evCopy P H t d x) os
  | .max, _, [x, y] => vo (evMinMax true x y) H os
  | .min, _, [x, y] => vo (evMinMax false x y) H os
  | .real, _, [.complex k x _] => rv (.float k x) H os []
  | .imag, _, [.complex k _ y] => rv (.float k y) H os []
  | .complex, _, [.float k x, .float k' y] => bif sameF k k' then rv (.complex k x y) H os [] else none
  | _, _, _ => none

def evOp (P : Program) (o : Op) (e : Env) (H : Heap) (os : List Orc) : Option Res :=
  match o with
  | .move x => vo (evx e x) H os
  | .assign x => vo (evx e x) H os
  | .pick c a b => match evx e c, opBool os with
    | some (.bool t), some (t', r) => vp ((evx e (bif t' then a else b)).map fun v => (v, [t = t'])) H r
    | _, _ => none
  | .box _ x => match evx e x with
    | some v => bif allP one1 (cellsV v) then some ⟨.pointer (some ⟨H.length, 0, some 0⟩), H ++ [some ⟨true, .vs (cellsV v)⟩], os, []⟩ else none
    | none => none
  | .alloc t => match P.info? t with
    | some i => match i.zero with
      | some z => bif plain z && allP one1 (cellsV z) then some ⟨.pointer (some ⟨H.length, 0, some 0⟩), H ++ [some ⟨true, .vs (cellsV z)⟩], os, []⟩ else none
      | none => none
    | none => none
  | .build t ps => match evParts e ps.toList with
    | some l => vo (evBuild P t l) H os
    | none => none
  | .buildSlice t n ps => match evParts e ps.toList with
    | some l => match evBuildSlice P H t n l with
      | some (v, H') => some ⟨v, H', os, []⟩
      | none => match evBuildSliceN P H t n l with
        | some (v, H', vc) => some ⟨v, H', os, vc⟩
        | none => none
    | none => none
  | .load t a => match evx e a with
    | some x => vp (evLoad P H t x) H os
    | none => none
  | .store t a x => match evx e a, evx e x with
    | some av, some v => match evStore P H t av v with
      | some (H', vc) => some ⟨undef, H', os, vc⟩
      | none => match evStoreN P H t av v with
        | some (H', vc) => some ⟨undef, H', os, vc⟩
        | none => match os with
          | .g f :: os1 => match evStoreC P H t av v f with
            | some (H', vc) => some ⟨undef, H', os1, vc⟩
            | none => none
          | _ => none
    | _, _ => none
  | .nilCheck x => match evx e x with
    | some (.pointer (some a)) => rv (.pointer (some a)) H os []
    | some (.func (.func f) fs cs) => rv (.func (.func f) fs cs) H os []
    | _ => none
  | .binOp op t x y _ => match evx e x, evx e y with
    | some a, some b => vp (evBin P op t a b) H os
    | _, _ => none
  | .unOp op _ x => match evx e x with
    | some a => vp (evUn op a) H os
    | none => none
  | .convert s d x => match evx e x with
    | some a => vp (evConv P s d a) H os
    | none => none
  | .makeFunc fn fs cs => match evxs e fs.toList, evxs e cs.toList with
    | some f, some c => rv (.func fn ⟨f⟩ ⟨c⟩) H os []
    | _, _ => none
  | .makeSlice t l c => match evx e l, evx e c, opNum os with
    | some a, some b, some (n, r) => match evMake P H t a b n with
      | some x => vh (some x) r
      | none => vh (evMakeN P H t a b n) r
    | _, _, _ => none
  | .slice t x lo hi mx => match evx e x, evOpt e lo, evOpt e hi, evOpt e mx, os with
    | some v, some l, some h, some m, .n nlo :: .n nhi :: r => vp (evSlice P H t v l h m nlo nhi) H r
    | _, _, _, _, _ => none
  | .fieldAddr t x f => match evx e x with
    | some a => vo (evFieldAddr P t a f) H os
    | none => none
  | .field t x f => match evx e x with
    | some a => vo (evField P t a f) H os
    | none => none
  | .indexAddr t x i => match evx e x, evx e i, opNum os with
    | some a, some b, some (n, r) => vp (evIndexAddr P H t a b n) H r
    | _, _, _ => none
  | .index t x i => match evx e x, evx e i, opNum os with
    | some (.string s), some (.int _ k), some (n, r) => bif isStrT P t then rv (.int .u8 ((s.data.toList.getD n 0).toNat : Int)) H r [k = (n : Int), n < s.size] else none
    | _, _, _ => none
  | .extract x i => match evx e x with
    | some (.tuple ⟨l⟩) => vo (nth l i) H os
    | _ => none
  | .call ⟨.builtin b, args, ts⟩ => match evxs e args.toList with
    | some vs => evBuiltin P b ts.toList vs H os
    | none => none
  | .call ⟨.value f, args, _⟩ => match evx e f, evxs e args.toList with
    | some fv, some vs => evCall P fv vs H os
    | _, _ => none
  | _ => none

/-- The guard's answer: none: it is asked for; else what the operation that is looked at gave. -/
def guardB (ops : List Oper) (e : Env) (o : Oper) (os : List Orc) : Option (Bool × List Orc × List Prop) :=
  match o.guard with
  | none => some (true, os, [])
  | some (j, want) => match nth ops j with
    | some oj => match oj.dst with
      | some d => match look d e, os with
        | some (.tuple ⟨[]⟩), os => some (false, os, [])
        | some (.bool t), .b t' :: r => some (bif want then t' else !t', r, [t = t'])
        | _, _ => none
      | none => none
    | none => none

def putD (N : Nat) (d : Option Tmp) (v : Value) (e : Env) : Option Env :=
  match d with
  | none => some e
  | some t => bif Nat.blt t N then some (ins t v e) else none

def bytesOf (xs : List Int) : ByteArray := ⟨⟨xs.map fun n => UInt8.ofNat n.toNat⟩⟩

/-- Bytes taken as a text (in a region that keeps the text's order). -/
def evText (P : Program) (o : Op) (e : Env) (H : Heap) : Option (Value × List Prop) :=
  match o with
  | .convert s d x => match evx e x, P.underlying s, P.underlying d with
    | some (.slice (some ⟨b, r, none⟩) l _), some (.slice el), some .string => match P.underlying el, blkAt H b with
      | some (.int .u8), some ⟨_, .it .u8 xs⟩ => bif Nat.beq r 0 then some (.string (bytesOf xs), [l = xs.length]) else none
      | _, _ => none
    | _, _, _ => none
  | _ => none

def evOpS (P : Program) (o : Op) (e : Env) (H : Heap) (os : List Orc) : Option Res :=
  match evText P o e H with
  | some (v, vc) => some ⟨v, H, os, vc⟩
  | none => evOp P o e H os

/-- The operations of a region, in their order. 'all': the whole region. -/
def evOps (P : Program) (N : Nat) (all : List Oper) : List Oper → St → List Orc → Option (St × List Orc × List Prop)
  | [], s, os => some (s, os, [])
  | o :: l, s, os =>
    match guardB all s.tm o os with
    | some (true, os1, vg) =>
      match evOpS P o.op s.tm s.hp os1 with
      | some r => match putD N o.dst r.v s.tm with
        | some e => match evOps P N all l ⟨e, r.hp⟩ r.os with
          | some (s', os', vc) => some (s', os', vg ++ r.vc ++ vc)
          | none => none
        | none => none
      | none => none
    | some (false, os1, vg) =>
      match putD N o.dst undef s.tm with
      | some e => match evOps P N all l ⟨e, s.hp⟩ os1 with
        | some (s', os', vc) => some (s', os', vg ++ vc)
        | none => none
      | none => none
    | none => none

/-! ### Code -/

structure Rel (N : Nat) (ι : List Place) (s : St) (a : Act) (w : World) : Prop where
  size : a.tmps.size = N
  defers : a.defers = []
  env : ∀ (t : Nat) (v : Value), look t s.tm = some v → t < N ∧ VR ι v (a.tmps.getD t undef)
  rh : RH ι s.hp w

structure ExtN (n0 : Nat) (ι : List Place) (H : Heap) (w : World) (ι' : List Place) (H' : Heap) (w' : World) : Prop where
  pre : ∃ l, ι' = ι.take n0 ++ l
  len : n0 ≤ ι.length
  fr : Fr (Own ι H w) w w'
  fresh : ∀ rb, Own ι' H' w' rb → Own ι H w rb ∨ w.heap.size ≤ rb

/-- The code leads from this state to this one, and leaves so. -/
def PW (P : Program) (N n0 : Nat) (c : Code) (s : St) (e : Exit) (s' : St) : Prop :=
  ∀ (ι : List Place) (a : Act) (w : World), Rel N ι s a w → n0 ≤ s.hp.length →
    c.wp P (fun e' a' w' => e' = e ∧ ∃ ι', Rel N ι' s' a' w' ∧ ExtN n0 ι s.hp w ι' s'.hp w' ∧ n0 ≤ s'.hp.length) a w

def AllP : List Prop → Prop
  | [] => True
  | p :: l => p ∧ AllP l

end Go.Sim
