/- A pure account of the values, floats and memory of a run, and how it stands to the model's (part 5: the evaluator of single operations is right: operators, conversions, reading). Conditions: none. -/
import Derived.Calls
import Derived.Laws.Sem
import Derived.Laws.World
import Derived.Laws.Cells
import Derived.Laws.FloatArith
import Derived.Below
import Derived.Orders
import Derived.Laws.Cover3
import Derived.Laws.Small

section
namespace Go.Sim
open Go

/-! ### Floats: all not-a-numbers are one -/

def cNaN : FloatKind → Nat
  | .f32 => 2143289344
  | .f64 => 9221120237041090561

def isN (k : FloatKind) (b : Nat) : Bool := (k.decode b).isNaN

def canon (k : FloatKind) (b : Nat) : Nat := if isN k b then cNaN k else b

theorem isN_cNaN (k : FloatKind) : isN k (cNaN k) = true := by cases k <;> rfl

theorem isN_canon (k : FloatKind) (b : Nat) : isN k (canon k b) = isN k b := by
  unfold canon
  split
  · rename_i h; rw [isN_cNaN, h]
  · rfl

theorem canon_of_not {k : FloatKind} {b : Nat} (h : isN k b = false) : canon k b = b := by simp [canon, h]

theorem canon_of_nan {k : FloatKind} {b : Nat} (h : isN k b = true) : canon k b = cNaN k := by simp [canon, h]

theorem canon_canon (k : FloatKind) (b : Nat) : canon k (canon k b) = canon k b := by
  cases h : isN k b
  · rw [canon_of_not h, canon_of_not h]
  · rw [canon_of_nan h, canon_of_nan (isN_cNaN k)]

/-- What the datum of a word and that of its canonical word have in common. -/
theorem read_canon (k : FloatKind) (b : Nat) : (k.decode (canon k b) = k.decode b) ∨ ((k.decode (canon k b)).isNaN = true ∧ (k.decode b).isNaN = true) := by
  cases h : isN k b
  · left; rw [canon_of_not h]
  · right; exact ⟨by have := isN_canon k b; rw [h] at this; exact this, h⟩

theorem sum_nan_l {x : Ieee.Datum} (h : x.isNaN = true) (y : Ieee.Datum) : x.sum y = none := by
  cases x <;> simp [Ieee.Datum.isNaN] at h; rfl
theorem sum_nan_r (x : Ieee.Datum) {y : Ieee.Datum} (h : y.isNaN = true) : x.sum y = none := by
  cases y <;> simp [Ieee.Datum.isNaN] at h
  cases x <;> rfl
theorem product_nan_l {x : Ieee.Datum} (h : x.isNaN = true) (y : Ieee.Datum) : x.product y = none := by
  cases x <;> simp [Ieee.Datum.isNaN] at h; rfl
theorem product_nan_r (x : Ieee.Datum) {y : Ieee.Datum} (h : y.isNaN = true) : x.product y = none := by
  cases y <;> simp [Ieee.Datum.isNaN] at h
  cases x <;> rfl
theorem quotient_nan_l (d : Nat) {x : Ieee.Datum} (h : x.isNaN = true) (y : Ieee.Datum) : x.quotient d y = none := by
  cases x <;> simp [Ieee.Datum.isNaN] at h; rfl
theorem quotient_nan_r (d : Nat) (x : Ieee.Datum) {y : Ieee.Datum} (h : y.isNaN = true) : x.quotient d y = none := by
  cases y <;> simp [Ieee.Datum.isNaN] at h
  cases x <;> rfl
theorem order_nan_l {x : Ieee.Datum} (h : x.isNaN = true) (y : Ieee.Datum) : x.order y = none := by
  cases x <;> simp [Ieee.Datum.isNaN] at h; rfl
theorem order_nan_r (x : Ieee.Datum) {y : Ieee.Datum} (h : y.isNaN = true) : x.order y = none := by
  cases y <;> simp [Ieee.Datum.isNaN] at h
  cases x <;> rfl
theorem isNaN_opposite (x : Ieee.Datum) : x.opposite.isNaN = x.isNaN := by cases x <;> rfl

/-- An operation does not see which not-a-number its operands are. -/
theorem floatBits_canon (op : BinOp) (k : FloatKind) (x y : Nat) : floatBits op k (canon k x) (canon k y) = floatBits op k x y := by
  have hx := read_canon k x
  have hy := read_canon k y
  unfold FloatKind.decode at hx hy
  cases op <;> simp only [floatBits, Ieee.Format.add, Ieee.Format.sub, Ieee.Format.mul, Ieee.Format.div]
  case add =>
    rcases hx with hx | ⟨h1, h2⟩
    · rcases hy with hy | ⟨g1, g2⟩
      · rw [hx, hy]
      · rw [sum_nan_r _ g1, sum_nan_r _ g2]
    · rw [sum_nan_l h1, sum_nan_l h2]
  case sub =>
    rcases hx with hx | ⟨h1, h2⟩
    · rcases hy with hy | ⟨g1, g2⟩
      · rw [hx, hy]
      · rw [sum_nan_r _ (by rw [isNaN_opposite]; exact g1), sum_nan_r _ (by rw [isNaN_opposite]; exact g2)]
    · rw [sum_nan_l h1, sum_nan_l h2]
  case mul =>
    rcases hx with hx | ⟨h1, h2⟩
    · rcases hy with hy | ⟨g1, g2⟩
      · rw [hx, hy]
      · rw [product_nan_r _ g1, product_nan_r _ g2]
    · rw [product_nan_l h1, product_nan_l h2]
  case quo =>
    rcases hx with hx | ⟨h1, h2⟩
    · rcases hy with hy | ⟨g1, g2⟩
      · rw [hx, hy]
      · rw [quotient_nan_r _ _ g1, quotient_nan_r _ _ g2]
    · rw [quotient_nan_l _ h1, quotient_nan_l _ h2]

theorem order_canon (k : FloatKind) (x y : Nat) : k.format.order (canon k x) (canon k y) = k.format.order x y := by
  have hx := read_canon k x
  have hy := read_canon k y
  unfold FloatKind.decode at hx hy
  simp only [Ieee.Format.order]
  rcases hx with hx | ⟨h1, h2⟩
  · rcases hy with hy | ⟨g1, g2⟩
    · rw [hx, hy]
    · rw [order_nan_r _ g1, order_nan_r _ g2]
  · rw [order_nan_l h1, order_nan_l h2]

/-- The words of a format that are not too long. -/
def okW (k : FloatKind) (b : Nat) : Prop := b < 2 ^ k.format.width

/-- '+', '-', '*', '/' with one not-a-number. -/
def fop (op : BinOp) (k : FloatKind) (x y : Nat) : Nat :=
  match floatBits op k x y with
  | some r => canon k r
  | none => cNaN k

def fcmp (op : BinOp) (k : FloatKind) (x y : Nat) : Bool :=
  match op with
  | .eql => k.format.order x y == some .eq
  | .neq => k.format.order x y != some .eq
  | .lss => k.format.order x y == some .lt
  | .leq => k.format.order x y == some .lt || k.format.order x y == some .eq
  | .gtr => k.format.order x y == some .gt
  | .geq => k.format.order x y == some .gt || k.format.order x y == some .eq
  | _ => false

theorem fcmp_canon (op : BinOp) (k : FloatKind) (x y : Nat) : fcmp op k (canon k x) (canon k y) = fcmp op k x y := by
  unfold fcmp; rw [order_canon]

theorem cut_nan_okW {a b : Nat} {m : Bool} (k : FloatKind) (q : Question) (t : Nat) (h : q = .nanBits k a b ∨ q = .nanConv k a ∨ q = .nanMinMax k m a b) :
    okW k (q.cut t) ∧ isN k (q.cut t) = true := by
  have key : (k = .f32 → q.cut t = (t % 2) * 2 ^ 31 + 0x7f800000 + 1 + (t / 2) % (2 ^ 23 - 1)) ∧
      (k = .f64 → q.cut t = (t % 2) * 2 ^ 63 + 0x7ff0000000000000 + 1 + (t / 2) % (2 ^ 52 - 1)) := by
    constructor <;> intro hk <;> subst hk <;> rcases h with h | h | h <;> subst h <;> rfl
  cases k with
  | f32 =>
    rw [key.1 rfl]
    have h1 : t % 2 < 2 := Nat.mod_lt _ (by omega)
    have h2 : (t / 2) % (2 ^ 23 - 1) < 2 ^ 23 - 1 := Nat.mod_lt _ (by omega)
    generalize (t / 2) % (2 ^ 23 - 1) = u at *
    generalize t % 2 = s at *
    refine ⟨?_, ?_⟩
    · show s * 2 ^ 31 + 0x7f800000 + 1 + u < 2 ^ 32
      omega
    · show (Ieee.single.read (s * 2 ^ 31 + 0x7f800000 + 1 + u)).isNaN = true
      have e1 : Ieee.single.signWeight = 2 ^ 31 := by rfl
      have e2 : Ieee.single.infRung = 0x7f800000 := by rfl
      have e3 : Ieee.single.binade = 2 ^ 23 := by rfl
      have hr : (s * 2 ^ 31 + 0x7f800000 + 1 + u) % Ieee.single.signWeight = 0x7f800000 + 1 + u := by rw [e1]; omega
      unfold Ieee.Format.read
      simp only [hr]
      rw [if_neg (by rw [e3]; omega), if_neg (by rw [e2]; omega), if_neg (by rw [e2]; omega)]
      rfl
  | f64 =>
    rw [key.2 rfl]
    have h1 : t % 2 < 2 := Nat.mod_lt _ (by omega)
    have h2 : (t / 2) % (2 ^ 52 - 1) < 2 ^ 52 - 1 := Nat.mod_lt _ (by omega)
    generalize (t / 2) % (2 ^ 52 - 1) = u at *
    generalize t % 2 = s at *
    refine ⟨?_, ?_⟩
    · show s * 2 ^ 63 + 0x7ff0000000000000 + 1 + u < 2 ^ 64
      omega
    · show (Ieee.double.read (s * 2 ^ 63 + 0x7ff0000000000000 + 1 + u)).isNaN = true
      have e1 : Ieee.double.signWeight = 2 ^ 63 := by rfl
      have e2 : Ieee.double.infRung = 0x7ff0000000000000 := by rfl
      have e3 : Ieee.double.binade = 2 ^ 52 := by rfl
      have hr : (s * 2 ^ 63 + 0x7ff0000000000000 + 1 + u) % Ieee.double.signWeight = 0x7ff0000000000000 + 1 + u := by rw [e1]; omega
      unfold Ieee.Format.read
      simp only [hr]
      rw [if_neg (by rw [e3]; omega), if_neg (by rw [e2]; omega), if_neg (by rw [e2]; omega)]
      rfl

/-- 'w'' is 'w' after some draws. -/
def Drawn (w w' : World) : Prop := ∃ n, w' = { w with drawn := w.drawn + n }

theorem Drawn.refl (w : World) : Drawn w w := ⟨0, rfl⟩

section
variable {P : Program}

theorem run_choose_nan {a b : Nat} {m : Bool} (k : FloatKind) (q : Question) (w : World) (hq : q = .nanBits k a b ∨ q = .nanConv k a ∨ q = .nanMinMax k m a b) :
    ∃ r w', (choose q).run P w = .ok r w' ∧ Drawn w w' ∧ okW k r ∧ isN k r = true := by
  have h := cut_nan_okW k q (w.tape w.drawn q) hq
  refine ⟨_, { w with drawn := w.drawn + 1 }, ?_, ⟨1, rfl⟩, h.1, h.2⟩
  rw [run_choose]
  rcases hq with rfl | rfl | rfl <;> rfl

/-- Float arithmetic of the model gives, but for which not-a-number, what 'fop' gives. -/
theorem run_floatArith (op : BinOp) (k : FloatKind) (x y : Nat) (w : World) (hop : op = .add ∨ op = .sub ∨ op = .mul ∨ op = .quo) :
    ∃ r w', (Op.floatArith op k x y).run P w = .ok (.float k r) w' ∧ Drawn w w' ∧ okW k r ∧ canon k r = fop op k (canon k x) (canon k y) := by
  unfold fop
  rw [floatBits_canon]
  cases hb : floatBits op k x y with
  | some r =>
    refine ⟨r, w, ?_, Drawn.refl w, ?_, rfl⟩
    · rcases hop with rfl | rfl | rfl | rfl <;> simp only [floatBits] at hb <;> simp [Op.floatArith, hb]
    · have := floatBits_wf hb
      cases k <;> simp [Lit.wf] at this <;> exact this
  | none =>
    obtain ⟨r, w', hr, hd, ho, hn⟩ := run_choose_nan (P := P) (a := x) (b := y) (m := false) k (.nanBits k x y) w (Or.inl rfl)
    refine ⟨r, w', ?_, hd, ho, canon_of_nan hn⟩
    rcases hop with rfl | rfl | rfl | rfl <;> simp only [floatBits] at hb <;> simp [Op.floatArith, hb, hr, -run_choose]
end
end Go.Sim
end

section
namespace Go.Sim
open Go

/-- Where a pure block lies: its real block (none: it has no cell), the offset of its first row, the cells of a row, how many rows its real block has room for. -/
structure Place where
  blk : Option Nat
  base : Nat
  sz : Nat
  cap : Nat

mutual
/-- A pure value stands for a real one. A pure address names a pure block, a row and (a pointer) a column. A pure slice's capacity says: 0: none; 2: whatever it is, and the slice is not nil; else: whatever it is. -/
inductive VR (ι : List Place) : Value → Value → Prop
  | bool (b : Bool) : VR ι (.bool b) (.bool b)
  | int (k : IntKind) (n : Int) : VR ι (.int k n) (.int k n)
  | float {k : FloatKind} {x b : Nat} (h : canon k b = x) (hb : okW k b) : VR ι (.float k x) (.float k b)
  | complex {k : FloatKind} {x y a b : Nat} (h : canon k a = x) (ha : okW k a) (g : canon k b = y) (hb : okW k b) : VR ι (.complex k x y) (.complex k a b)
  | string (s : ByteArray) : VR ι (.string s) (.string s)
  | nilFunc : VR ι .nilFunc .nilFunc
  | nilp : VR ι (.pointer none) (.pointer none)
  | ptr {b i j : Nat} {p : Place} {rb : Nat} (h : ι[b]? = some p) (hb : p.blk = some rb) :
      VR ι (.pointer (some ⟨b, i, some j⟩)) (.pointer (some ⟨rb, p.base + i * p.sz + j, none⟩))
  | nils : VR ι (.slice none 0 0) (.slice none 0 0)
  | slice {b i l c c' : Nat} {p : Place} {rb : Nat} (h : ι[b]? = some p) (hb : p.blk = some rb) (hl : l ≤ c') (hc : i + c' ≤ p.cap) (h0 : c = 0 → c' = 0) :
      VR ι (.slice (some ⟨b, i, none⟩) l c) (.slice (some ⟨rb, p.base + i * p.sz, none⟩) l c')
  | slice0 {a : Addr} {c : Nat} {x : Option Addr} (hx : Nat.beq c 2 = true → x ≠ none) : VR ι (.slice (some a) 0 c) (.slice x 0 0)
  | func (fn : Fn) {f f' c c' : List Value} (hf : VRs ι f f') (hc : VRs ι c c') : VR ι (.func fn ⟨f⟩ ⟨c⟩) (.func fn ⟨f'⟩ ⟨c'⟩)
  | agg {cs cs' : List Value} (h : VRs ι cs cs') : VR ι (.agg ⟨cs⟩) (.agg ⟨cs'⟩)
  | tuple {cs cs' : List Value} (h : VRs ι cs cs') : VR ι (.tuple ⟨cs⟩) (.tuple ⟨cs'⟩)
inductive VRs (ι : List Place) : List Value → List Value → Prop
  | nil : VRs ι [] []
  | cons {v v' : Value} {l l' : List Value} (h : VR ι v v') (hs : VRs ι l l') : VRs ι (v :: l) (v' :: l')
end

/-- What one placing places, the other places so, too. -/
def Sub (ι ι' : List Place) : Prop := ∀ (b : Nat) (p : Place), ι[b]? = some p → ι'[b]? = some p

mutual
theorem VR.mono {ι ι' : List Place} (hi : Sub ι ι') : ∀ {v v' : Value}, VR ι v v' → VR ι' v v'
  | _, _, .bool b => .bool b
  | _, _, .int k n => .int k n
  | _, _, .float h hb => .float h hb
  | _, _, .complex h ha g hb => .complex h ha g hb
  | _, _, .string s => .string s
  | _, _, .nilFunc => .nilFunc
  | _, _, .nilp => .nilp
  | _, _, .ptr h hb => .ptr (hi _ _ h) hb
  | _, _, .nils => .nils
  | _, _, .slice h hb hl hc h0 => .slice (hi _ _ h) hb hl hc h0
  | _, _, .slice0 hx => .slice0 hx
  | _, _, .func fn hf hc => .func fn (VRs.mono hi hf) (VRs.mono hi hc)
  | _, _, .agg h => .agg (VRs.mono hi h)
  | _, _, .tuple h => .tuple (VRs.mono hi h)
theorem VRs.mono {ι ι' : List Place} (hi : Sub ι ι') : ∀ {l l' : List Value}, VRs ι l l' → VRs ι' l l'
  | _, _, .nil => .nil
  | _, _, .cons h hs => .cons (VR.mono hi h) (VRs.mono hi hs)
end

theorem VRs.length {ι : List Place} : ∀ {l l' : List Value}, VRs ι l l' → l.length = l'.length
  | _, _, .nil => rfl
  | _, _, .cons _ hs => by simp [VRs.length hs]

theorem VRs.get {ι : List Place} : ∀ {l l' : List Value}, VRs ι l l' → ∀ (j : Nat) (v : Value), l[j]? = some v → ∃ v', l'[j]? = some v' ∧ VR ι v v'
  | _, _, .nil, j, v, h => by simp at h
  | _, _, .cons h hs, 0, v, e => by simp at e; subst e; exact ⟨_, rfl, h⟩
  | _, _, .cons h hs, j + 1, v, e => by simpa using VRs.get hs j v (by simpa using e)

theorem VRs.append {ι : List Place} : ∀ {l l' m m' : List Value}, VRs ι l l' → VRs ι m m' → VRs ι (l ++ m) (l' ++ m')
  | _, _, _, _, .nil, h => h
  | _, _, _, _, .cons h hs, g => .cons h (VRs.append hs g)

/-- A pure list stands for a real one, place by place. -/
theorem VRs.of_get {ι : List Place} : ∀ {l l' : List Value}, l.length = l'.length → (∀ (j : Nat) (v v' : Value), l[j]? = some v → l'[j]? = some v' → VR ι v v') → VRs ι l l'
  | [], [], _, _ => .nil
  | [], _ :: _, h, _ => by simp at h
  | _ :: _, [], h, _ => by simp at h
  | v :: l, v' :: l', h, g => .cons (g 0 v v' rfl rfl) (VRs.of_get (by simpa using h) fun j a b ha hb => g (j + 1) a b (by simpa using ha) (by simpa using hb))

theorem VRs.take {ι : List Place} {l l' : List Value} (h : VRs ι l l') (n : Nat) : VRs ι (l.take n) (l'.take n) := by
  induction n generalizing l l' with
  | zero => simp; exact .nil
  | succ n ih => cases h with
    | nil => simp; exact .nil
    | cons h hs => simp; exact .cons h (ih hs)

theorem VRs.drop {ι : List Place} {l l' : List Value} (h : VRs ι l l') (n : Nat) : VRs ι (l.drop n) (l'.drop n) := by
  induction n generalizing l l' with
  | zero => simpa using h
  | succ n ih => cases h with
    | nil => simp; exact .nil
    | cons h hs => simpa using ih hs

/-! ### Blocks -/

/-- A value of one cell that holds no address. -/
inductive Sc where
  | b (t : Bool)
  | i (k : IntKind) (n : Int)
  | f (k : FloatKind) (x : Nat)
  | s (t : ByteArray)

def Sc.v : Sc → Value
  | .b t => .bool t
  | .i k n => .int k n
  | .f k x => .float k x
  | .s t => .string t

inductive Cont where
  | fl (k : FloatKind) (xs : List Nat)
  | it (k : IntKind) (xs : List Int)
  | cx (k : FloatKind) (xs : List (Nat × Nat))
  | vs (l : List Value)
  | fn (n sz : Nat) (g : Nat → List Sc)

def Cont.rows : Cont → Nat
  | .fl _ xs => xs.length
  | .it _ xs => xs.length
  | .cx _ xs => xs.length
  | .vs _ => 1
  | .fn n _ _ => n

def Cont.sz : Cont → Nat
  | .fl _ _ => 1
  | .it _ _ => 1
  | .cx _ _ => 1
  | .vs l => l.length
  | .fn _ sz _ => sz

def Cont.row : Cont → Nat → List Value
  | .fl k xs, r => [.float k (xs.getD r 0)]
  | .it k xs, r => [.int k (xs.getD r 0)]
  | .cx k xs, r => [.complex k (xs.getD r (0, 0)).1 (xs.getD r (0, 0)).2]
  | .vs l, _ => l
  | .fn _ _ g, r => (g r).map Sc.v

structure Blk where
  own : Bool
  c : Cont

/-- The pure memory: a list of blocks; 'none': a block that is no more spoken of. -/
abbrev Heap := List (Option Blk)

structure BlkOk (ι : List Place) (w : World) (p : Place) (b : Blk) : Prop where
  sz : p.sz = b.c.sz
  len : ∀ r, r < b.c.rows → (b.c.row r).length = b.c.sz
  cells : ∀ r j, r < b.c.rows → j < b.c.sz → ∃ rb cs e f v u, p.blk = some rb ∧ w.heap[rb]? = some (.cells cs e f) ∧
    cs[p.base + r * p.sz + j]? = some v ∧ (b.c.row r)[j]? = some u ∧ VR ι u v ∧ v.oneCell' = true
  own : b.own = true → ∀ rb, p.blk = some rb → p.base = 0 ∧ b.c.rows ≤ p.cap ∧ ∃ cs e, w.heap[rb]? = some (.cells cs e (0, 0)) ∧ cs.size = p.cap * p.sz ∧ ∀ (j : Nat) (v : Value), cs[j]? = some v → v.oneCell' = true

structure RH (ι : List Place) (H : Heap) (w : World) : Prop where
  len : ι.length = H.length
  blk : ∀ (i : Nat) (p : Place) (b : Blk), ι[i]? = some p → H[i]? = some (some b) → BlkOk ι w p b
  sep : ∀ (i j : Nat) (p q : Place) (b c : Blk) (rb : Nat), ι[i]? = some p → H[i]? = some (some b) → b.own = true →
    ι[j]? = some q → H[j]? = some (some c) → i ≠ j → p.blk = some rb → q.blk ≠ some rb
  lt : ∀ (i : Nat) (p : Place) (b : Blk) (rb : Nat), ι[i]? = some p → H[i]? = some (some b) → p.blk = some rb → rb < w.heap.size

/-- The real blocks that may be written. -/
def Own (ι : List Place) (H : Heap) (rb : Nat) : Prop := ∃ (i : Nat) (p : Place) (b : Blk), ι[i]? = some p ∧ H[i]? = some (some b) ∧ b.own = true ∧ p.blk = some rb

/-- Of the real world only blocks in 'O' and new ones have turned. -/
structure Fr (O : Nat → Prop) (w w' : World) : Prop where
  os : w'.os = w.os
  tape : w'.tape = w.tape
  output : w'.output = w.output
  size : w.heap.size ≤ w'.heap.size
  block : ∀ rb, rb < w.heap.size → ¬ O rb → w'.heap[rb]? = w.heap[rb]?

theorem Fr.refl (O : Nat → Prop) (w : World) : Fr O w w := ⟨rfl, rfl, rfl, Nat.le_refl _, fun _ _ _ => rfl⟩

theorem Fr.trans {O O' : Nat → Prop} {a b c : World} (h : Fr O a b) (k : Fr O' b c) (hO : ∀ rb, O' rb → O rb ∨ a.heap.size ≤ rb) : Fr O a c :=
  ⟨k.os.trans h.os, k.tape.trans h.tape, k.output.trans h.output, Nat.le_trans h.size k.size, fun rb hr hn =>
    (k.block rb (Nat.lt_of_lt_of_le hr h.size) fun ho => by rcases hO rb ho with h' | h'; exact hn h'; omega).trans (h.block rb hr hn)⟩

theorem Fr.mono {O O' : Nat → Prop} {a b : World} (h : Fr O a b) (hO : ∀ rb, O rb → O' rb) : Fr O' a b :=
  ⟨h.os, h.tape, h.output, h.size, fun rb hr hn => h.block rb hr fun ho => hn (hO rb ho)⟩

structure Ext (ι : List Place) (H : Heap) (w : World) (ι' : List Place) (H' : Heap) (w' : World) : Prop where
  pre : ∃ l, ι' = ι ++ l
  rh : RH ι' H' w'
  fr : Fr (Own ι H) w w'
  fresh : ∀ rb, Own ι' H' rb → Own ι H rb ∨ w.heap.size ≤ rb

theorem Ext.refl {ι : List Place} {H : Heap} {w : World} (h : RH ι H w) : Ext ι H w ι H w :=
  ⟨⟨[], by simp⟩, h, Fr.refl _ _, fun _ h => .inl h⟩

theorem Ext.trans {ι ι1 ι2 : List Place} {H H1 H2 : Heap} {w w1 w2 : World} (h : Ext ι H w ι1 H1 w1) (g : Ext ι1 H1 w1 ι2 H2 w2) : Ext ι H w ι2 H2 w2 := by
  obtain ⟨l, hl⟩ := h.pre
  obtain ⟨m, hm⟩ := g.pre
  refine ⟨⟨l ++ m, by rw [hm, hl, List.append_assoc]⟩, g.rh, h.fr.trans g.fr h.fresh, fun rb ho => ?_⟩
  rcases g.fresh rb ho with h' | h'
  · exact h.fresh rb h'
  · exact .inr (Nat.le_trans h.fr.size h')

theorem Ext.sub {ι : List Place} {H : Heap} {w : World} {ι' : List Place} {H' : Heap} {w' : World} (h : Ext ι H w ι' H' w') : Sub ι ι' := by
  obtain ⟨l, hl⟩ := h.pre
  intro b p hb
  rw [hl, List.getElem?_append_left (by
    rcases Nat.lt_or_ge b ι.length with h' | h'
    · exact h'
    · rw [List.getElem?_eq_none h'] at hb; cases hb)]
  exact hb

/-! ### How the real world may turn -/

theorem BlkOk.of_heap {ι ι' : List Place} {w w' : World} {p : Place} {b : Blk} (h : BlkOk ι w p b) (hi : Sub ι ι')
    (hw : ∀ rb, p.blk = some rb → rb < w.heap.size → w'.heap[rb]? = w.heap[rb]?) : BlkOk ι' w' p b := by
  refine ⟨h.sz, h.len, fun r j hr hj => ?_, fun ho rb hrb => ?_⟩
  · obtain ⟨rb, cs, e, f, v, u, h1, h2, h3, h4, h5, h6⟩ := h.cells r j hr hj
    have hlt : rb < w.heap.size := by
      rcases Nat.lt_or_ge rb w.heap.size with h' | h'
      · exact h'
      · rw [Array.getElem?_eq_none h'] at h2; cases h2
    exact ⟨rb, cs, e, f, v, u, h1, by rw [hw rb h1 hlt]; exact h2, h3, h4, h5.mono hi, h6⟩
  · obtain ⟨h1, h0, cs, e, h2, h3⟩ := h.own ho rb hrb
    have hlt : rb < w.heap.size := by
      rcases Nat.lt_or_ge rb w.heap.size with h' | h'
      · exact h'
      · rw [Array.getElem?_eq_none h'] at h2; cases h2
    exact ⟨h1, h0, cs, e, by rw [hw rb hrb hlt]; exact h2, h3⟩

theorem RH.of_heap {ι : List Place} {H : Heap} {w w' : World} (h : RH ι H w) (hw : ∀ rb : Nat, rb < w.heap.size → w'.heap[rb]? = w.heap[rb]?) (hs : w.heap.size ≤ w'.heap.size) : RH ι H w' :=
  ⟨h.len, fun i p b hp hb => (h.blk i p b hp hb).of_heap (fun _ _ x => x) fun rb _ hlt => hw rb hlt, h.sep, fun i p b rb h1 h2 h3 => Nat.lt_of_lt_of_le (h.lt i p b rb h1 h2 h3) hs⟩

theorem RH.drawn {ι : List Place} {H : Heap} {w w' : World} (h : RH ι H w) (hd : Drawn w w') : RH ι H w' := by
  obtain ⟨n, rfl⟩ := hd
  exact h.of_heap (fun _ _ => rfl) (Nat.le_refl _)

theorem Fr.drawn {O : Nat → Prop} {w w' : World} (hd : Drawn w w') : Fr O w w' := by
  obtain ⟨n, rfl⟩ := hd
  exact ⟨rfl, rfl, rfl, Nat.le_refl _, fun _ _ _ => rfl⟩

theorem Ext.drawn {ι : List Place} {H : Heap} {w w' : World} (h : RH ι H w) (hd : Drawn w w') : Ext ι H w ι H w' :=
  ⟨⟨[], by simp⟩, h.drawn hd, Fr.drawn hd, fun _ h => .inl h⟩

theorem getElem?_snoc_lt {α : Type} {l : List α} {x : α} {i : Nat} {y : α} (h : l[i]? = some y) : (l ++ [x])[i]? = some y := by
  rw [List.getElem?_append_left (by
    rcases Nat.lt_or_ge i l.length with h' | h'
    · exact h'
    · rw [List.getElem?_eq_none h'] at h; cases h)]
  exact h

theorem getElem?_snoc {α : Type} {l : List α} {x : α} {i : Nat} {y : α} (h : (l ++ [x])[i]? = some y) : (l[i]? = some y ∧ i < l.length) ∨ (i = l.length ∧ y = x) := by
  rcases Nat.lt_trichotomy i l.length with h' | h' | h'
  · left; rw [List.getElem?_append_left h'] at h; exact ⟨h, h'⟩
  · right; subst h'; simp at h; exact ⟨rfl, h.symm⟩
  · rw [List.getElem?_eq_none (by simp; omega)] at h; cases h

theorem some_lt {α : Type} {l : List α} {i : Nat} {y : α} (h : l[i]? = some y) : i < l.length := by
  rcases Nat.lt_or_ge i l.length with h' | h'
  · exact h'
  · rw [List.getElem?_eq_none h'] at h; cases h

theorem heap_alloc_lt (w : World) (o : Obj) (rb : Nat) (h : rb < w.heap.size) : (w.alloc o).heap[rb]? = w.heap[rb]? := by
  show (w.heap.push o)[rb]? = _
  rw [Array.getElem?_push, if_neg (by omega)]

theorem heap_alloc_new (w : World) (o : Obj) : (w.alloc o).heap[w.heap.size]? = some o := by
  show (w.heap.push o)[w.heap.size]? = _
  rw [Array.getElem?_push, if_pos rfl]

/-- A new block of the call's own: 'n' rows at its head are spoken of, there is room for 'm'. -/
theorem Ext.alloc {ι : List Place} {H : Heap} {w : World} (h : RH ι H w) (c : Cont) (cs : Array Value) (e : TypeId) (m : Nat)
    (hn : c.rows ≤ m) (hm : cs.size = m * c.sz) (hl : ∀ r, r < c.rows → (c.row r).length = c.sz)
    (hone : ∀ (j : Nat) (v : Value), cs[j]? = some v → v.oneCell' = true)
    (hc : ∀ r j, r < c.rows → j < c.sz → ∃ v u, cs[r * c.sz + j]? = some v ∧ (c.row r)[j]? = some u ∧ VR ι u v) :
    Ext ι H w (ι ++ [⟨some w.heap.size, 0, c.sz, m⟩]) (H ++ [some ⟨true, c⟩]) (w.alloc (.cells cs e)) := by
  have hsub : Sub ι (ι ++ [(⟨some w.heap.size, 0, c.sz, m⟩ : Place)]) := fun b p hb => getElem?_snoc_lt hb
  refine ⟨⟨_, rfl⟩, ⟨by simp [h.len], ?_, ?_, ?_⟩, ?_, ?_⟩
  · intro i p b hp hb
    rcases getElem?_snoc hp with ⟨hp, hi⟩ | ⟨hi, rfl⟩
    · rcases getElem?_snoc hb with ⟨hb, _⟩ | ⟨hi', _⟩
      · exact (h.blk i p b hp hb).of_heap hsub fun rb _ hlt => heap_alloc_lt w _ rb hlt
      · have := h.len; omega
    · rcases getElem?_snoc hb with ⟨hb, hi'⟩ | ⟨_, hb⟩
      · have := h.len; omega
      · simp at hb; subst hb
        refine ⟨rfl, hl, fun r j hr hj => ?_, fun _ rb hrb => ?_⟩
        · obtain ⟨v, u, h1, h2, h3⟩ := hc r j hr hj
          exact ⟨w.heap.size, cs, e, (0, 0), v, u, rfl, heap_alloc_new w _, by simpa using h1, h2, h3.mono hsub, hone _ v h1⟩
        · simp at hrb; subst hrb
          exact ⟨rfl, hn, cs, e, heap_alloc_new w _, hm, hone⟩
  · intro i j p q b c' rb hp hb ho hq hc' hij hrb
    have hlen := h.len
    rcases getElem?_snoc hp with ⟨hp, hi⟩ | ⟨hi, rfl⟩
    · rcases getElem?_snoc hb with ⟨hb, _⟩ | ⟨hi', _⟩
      · rcases getElem?_snoc hq with ⟨hq, hj⟩ | ⟨hj, rfl⟩
        · rcases getElem?_snoc hc' with ⟨hc', _⟩ | ⟨hj', _⟩
          · exact h.sep i j p q b c' rb hp hb ho hq hc' hij hrb
          · omega
        · intro he; simp at he; have := h.lt i p b rb hp hb hrb; omega
      · omega
    · simp at hrb; subst hrb
      rcases getElem?_snoc hq with ⟨hq, hj⟩ | ⟨hj, rfl⟩
      · rcases getElem?_snoc hc' with ⟨hc', _⟩ | ⟨hj', _⟩
        · intro he; have := h.lt j q c' _ hq hc' he; omega
        · omega
      · omega
  · intro i p b rb hp hb hrb
    have hlen := h.len
    rcases getElem?_snoc hp with ⟨hp, hi⟩ | ⟨hi, rfl⟩
    · rcases getElem?_snoc hb with ⟨hb, _⟩ | ⟨hi', _⟩
      · have := h.lt i p b rb hp hb hrb; simp; omega
      · omega
    · simp at hrb; subst hrb; simp
  · exact ⟨rfl, rfl, rfl, by simp, fun rb hr _ => heap_alloc_lt w _ rb hr⟩
  · rintro rb ⟨i, p, b, hp, hb, ho, hrb⟩
    have hlen := h.len
    rcases getElem?_snoc hp with ⟨hp, hi⟩ | ⟨hi, rfl⟩
    · rcases getElem?_snoc hb with ⟨hb, _⟩ | ⟨hi', _⟩
      · exact .inl ⟨i, p, b, hp, hb, ho, hrb⟩
      · omega
    · simp at hrb; subst hrb; exact .inr (Nat.le_refl _)

end Go.Sim
end

section
namespace Go.Sim
open Go

abbrev Env := List (Nat × Value)

def look (t : Nat) : Env → Option Value
  | [] => none
  | (u, v) :: r => bif Nat.beq t u then some v else look t r

def ins (t : Nat) (v : Value) : Env → Env
  | [] => [(t, v)]
  | (u, x) :: r => bif Nat.beq t u then (t, v) :: r else bif Nat.ble t u then (t, v) :: (u, x) :: r else (u, x) :: ins t v r

structure St where
  tm : Env
  hp : Heap

/-- What is told to the evaluator: how a test comes out; a number; a call's result and the memory behind it; a call of a function without a body; a loop's end. -/
inductive Orc where
  | b (t : Bool)
  | n (k : Nat)
  | c (m : List (Nat × Bool)) (v : Value) (hl : Heap)
  | x (v : Value)
  | l (keep m : List Nat) (e : Exit) (tm : Env) (hp : Heap)
  | q (m : Nat) (f : Option Nat)

def plain1 : Value → Bool
  | .bool _ => true
  | .int _ _ => true
  | .float k b => !isN k b && Nat.blt b (2 ^ k.format.width)
  | .complex k a b => !isN k a && Nat.blt a (2 ^ k.format.width) && !isN k b && Nat.blt b (2 ^ k.format.width)
  | .string _ => true
  | .pointer none => true
  | .slice none 0 0 => true
  | .nilFunc => true
  | _ => false

def allP (p : Value → Bool) : List Value → Bool
  | [] => true
  | v :: l => p v && allP p l

def plain : Value → Bool
  | .agg ⟨l⟩ => allP plain1 l
  | .tuple ⟨l⟩ => allP plain1 l
  | v => plain1 v

def evx (e : Env) : Operand → Option Value
  | .tmp t => look t e
  | .const v => bif plain v then some v else none
  | .func f => some (.func (.func f) ⟨[]⟩ ⟨[]⟩)
  | .global _ => none

def evxs (e : Env) : List Operand → Option (List Value)
  | [] => some []
  | x :: l => match evx e x, evxs e l with
    | some v, some vs => some (v :: vs)
    | _, _ => none

/-- A number lies within its kind. -/
def inR (k : IntKind) (n : Int) : Prop := k.min ≤ n ∧ n ≤ k.max

/-! ### The operators -/

def evInt (op : BinOp) (k : IntKind) (a b : Int) : Option (Value × List Prop) :=
  match op with
  | .add => bif k.signed then some (.int k (a + b), [inR k (a + b)]) else some (.int k (k.wrap (a + b)), [])
  | .sub => bif k.signed then some (.int k (a - b), [inR k (a - b)]) else some (.int k (k.wrap (a - b)), [])
  | .mul => bif k.signed then some (.int k (a * b), [inR k (a * b)]) else some (.int k (k.wrap (a * b)), [])
  | .quo => some (.int k (a.tdiv b), [b ≠ 0, inR k (a.tdiv b)])
  | .rem => some (.int k (a.tmod b), [b ≠ 0])
  | .and => some (.int k (k.wrap ((BitVec.ofInt k.bits a &&& BitVec.ofInt k.bits b).toNat)), [])
  | .or => some (.int k (k.wrap ((BitVec.ofInt k.bits a ||| BitVec.ofInt k.bits b).toNat)), [])
  | .xor => some (.int k (k.wrap ((BitVec.ofInt k.bits a ^^^ BitVec.ofInt k.bits b).toNat)), [])
  | .eql => some (.bool (a == b), [])
  | .neq => some (.bool (a != b), [])
  | .lss => some (.bool (decide (a < b)), [])
  | .leq => some (.bool (decide (a ≤ b)), [])
  | .gtr => some (.bool (decide (a > b)), [])
  | .geq => some (.bool (decide (a ≥ b)), [])
  | .shr => some (.int k (a.fdiv (2 ^ min b.toNat k.bits)), [0 ≤ b])
  | .shl => some (.int k (k.wrap (a * 2 ^ min b.toNat k.bits)), [0 ≤ b])
  | .andNot => some (.int k (k.wrap ((BitVec.ofInt k.bits a &&& ~~~BitVec.ofInt k.bits b).toNat)), [])

def isArith : BinOp → Bool
  | .add | .sub | .mul | .quo => true
  | _ => false

def isCmp : BinOp → Bool
  | .eql | .neq | .lss | .leq | .gtr | .geq => true
  | _ => false

def evStr (op : BinOp) (x y : ByteArray) : Option Value :=
  match op with
  | .eql => some (.bool (x.toList == y.toList))
  | .neq => some (.bool (!(x.toList == y.toList)))
  | .lss => some (.bool (Op.bytesLess x.toList y.toList))
  | .leq => some (.bool (Op.bytesLess x.toList y.toList || x.toList == y.toList))
  | .gtr => some (.bool (!(Op.bytesLess x.toList y.toList || x.toList == y.toList)))
  | .geq => some (.bool (!(Op.bytesLess x.toList y.toList)))
  | _ => none

def isBoolT (P : Program) (t : TypeId) : Bool :=
  match P.underlying t with
  | some .bool => true
  | _ => false

def sameI : IntKind → IntKind → Bool
  | .i8, .i8 | .i16, .i16 | .i32, .i32 | .i64, .i64 | .u8, .u8 | .u16, .u16 | .u32, .u32 | .u64, .u64 => true
  | _, _ => false
def sameF : FloatKind → FloatKind → Bool
  | .f32, .f32 | .f64, .f64 => true
  | _, _ => false

def isShift : BinOp → Bool
  | .shl | .shr => true
  | _ => false

def isSliceT (P : Program) (t : TypeId) : Bool :=
  match P.underlying t with
  | some (.slice _) => true
  | _ => false

def evBin (P : Program) (op : BinOp) (t : TypeId) (x y : Value) : Option (Value × List Prop) :=
  match x, y with
  | .int k a, .int k' b => bif isShift op || sameI k k' then evInt op k a b else none
  | .float k a, .float k' b => bif sameF k k' then
      (bif isArith op then some (.float k (fop op k a b), []) else bif isCmp op then some (.bool (fcmp op k a b), []) else none) else none
  | .complex k a b, .complex k' c d => bif sameF k k' then
      match op with
      | .add => some (.complex k (fop .add k a c) (fop .add k b d), [])
      | .sub => some (.complex k (fop .sub k a c) (fop .sub k b d), [])
      | .eql => some (.bool (fcmp .eql k a c && fcmp .eql k b d), [])
      | .neq => some (.bool (!(fcmp .eql k a c && fcmp .eql k b d)), [])
      | _ => none
      else none
  | .string a, .string b => (evStr op a b).map fun v => (v, [])
  | .bool a, .bool b => bif isBoolT P t then
      match op with
      | .eql => some (.bool (a == b), [])
      | .neq => some (.bool (!(a == b)), [])
      | _ => none
      else none
  | .slice (some _) l c, .slice none 0 0 => bif isSliceT P t then
      match op with
      | .eql => some (.bool false, bif Nat.beq c 2 then [] else [0 < l])
      | .neq => some (.bool true, bif Nat.beq c 2 then [] else [0 < l])
      | _ => none
      else none
  | .slice none 0 0, .slice none 0 0 => bif isSliceT P t then
      match op with
      | .eql => some (.bool true, [])
      | .neq => some (.bool false, [])
      | _ => none
      else none
  | _, _ => none

def fneg (k : FloatKind) (x : Nat) : Nat := if isN k x then cNaN k else Op.negFloat k x

def evUn (op : UnOp) (x : Value) : Option (Value × List Prop) :=
  match op, x with
  | .not, .bool b => some (.bool (!b), [])
  | .neg, .int k n => some (.int k (0 - n), [inR k (0 - n)])
  | .neg, .float k x => some (.float k (fneg k x), [])
  | .neg, .complex k x y => some (.complex k (fneg k x) (fneg k y), [])
  | _, _ => none

/-! ### Conversions -/

/-- A float of the other kind; of a not-a-number the one. -/
def fconv (s d : FloatKind) (x : Nat) : Nat := match s, d with
  | .f32, .f32 => x
  | .f64, .f64 => x
  | s, d => match s.decode x with
    | .nan _ _ => cNaN d
    | dt => d.encode dt

def fcv (s d : FloatKind) (x : Nat) : Nat := canon d (fconv s d x)

/-- The language fixes what a float of the other kind is: it is not a finite number that is too great. -/
@[irreducible] def fconvOk (s d : FloatKind) (x : Nat) : Prop := match s.decode x with
  | .number sg m e => (d.decode (d.encode (.number sg m e))).isInfinity = false
  | _ => True

def f2i (s : FloatKind) (x : Nat) (k : IntKind) : Option Int := floatToIntVal s x k

def evConv (P : Program) (src dst : TypeId) (x : Value) : Option (Value × List Prop) :=
  match P.underlying src, P.underlying dst, x with
  | some _, some (.int k), .int ks n => bif sameI ks .u64 && sameI k .i64 then some (.int k (k.wrap n), []) else some (.int k n, [inR k n])
  | some _, some (.float k), .int _ n => some (.float k (canon k (k.nearest n)), [])
  | some _, some (.int k), .float s b => some (.int k ((f2i s b k).getD 0), [(f2i s b k).isSome = true])
  | some _, some (.float k), .float s b =>
    match s, k with
    | .f32, .f32 => some (.float .f32 b, [])
    | .f64, .f64 => some (.float .f64 b, [])
    | .f32, .f64 => some (.float .f64 (fcv .f32 .f64 b), [])
    | .f64, .f32 => some (.float .f32 (fcv .f64 .f32 b), [fconvOk .f64 .f32 b])
  | some _, some .string, .string s => some (.string s, [])
  | some _, some (.complex k), .complex s a b =>
    match s, k with
    | .f32, .f32 => some (.complex .f32 a b, [])
    | .f64, .f64 => some (.complex .f64 a b, [])
    | .f32, .f64 => some (.complex .f64 (fcv .f32 .f64 a) (fcv .f32 .f64 b), [])
    | .f64, .f32 => some (.complex .f32 (fcv .f64 .f32 a) (fcv .f64 .f32 b), [fconvOk .f64 .f32 a, fconvOk .f64 .f32 b])
  | _, _, _ => none

/-! ### Memory -/

def nth {α : Type} : List α → Nat → Option α
  | [], _ => none
  | x :: _, 0 => some x
  | _ :: l, n + 1 => nth l n

def blkAt (H : Heap) (b : Nat) : Option Blk :=
  match nth H b with
  | some (some x) => some x
  | _ => none

def setAt {α : Type} : List α → Nat → α → List α
  | [], _, _ => []
  | _ :: l, 0, y => y :: l
  | x :: l, n + 1, y => x :: setAt l n y

/-- Row 'r' is there: what is to be shown for it. -/
def Cont.inb (c : Cont) (r : Nat) : Option (List Prop) :=
  match c with
  | .vs _ => bif Nat.beq r 0 then some [] else none
  | .fl _ xs => some [r < xs.length]
  | .it _ xs => some [r < xs.length]
  | .cx _ xs => some [r < xs.length]
  | .fn n _ _ => some [r < n]

def takeN {α : Type} : Nat → List α → Option (List α)
  | 0, _ => some []
  | _ + 1, [] => none
  | n + 1, x :: l => (takeN n l).map (x :: ·)

def dropN {α : Type} : Nat → List α → List α
  | 0, l => l
  | _ + 1, [] => []
  | n + 1, _ :: l => dropN n l

def isAggT (P : Program) (t : TypeId) : Option Bool :=
  match P.underlying t with
  | some (.struct _) => some true
  | some (.array _ _) => some true
  | some _ => some false
  | none => none

def evLoad (P : Program) (H : Heap) (t : TypeId) (x : Value) : Option (Value × List Prop) :=
  match x with
  | .pointer (some ⟨b, r, some j⟩) =>
    match blkAt H b, isAggT P t with
    | some blk, some agg =>
      match blk.c.inb r with
      | some vc =>
        bif agg then
          match takeN (P.cellsOf t) (dropN j (blk.c.row r)) with
          | some cs => some (.agg ⟨cs⟩, vc)
          | none => none
        else match nth (blk.c.row r) j with
          | some v => some (v, vc)
          | none => none
      | none => none
    | _, _ => none
  | _ => none

def splice {α : Type} (l : List α) (j : Nat) (us : List α) : List α := l.take j ++ us ++ l.drop (j + us.length)

def one1 : Value → Bool
  | .agg _ | .tuple _ => false
  | _ => true

/-- The cells of a value. -/
def cellsV : Value → List Value
  | .agg ⟨cs⟩ => cs
  | v => [v]

def scOf : Value → Option Sc
  | .bool t => some (.b t)
  | .int k n => some (.i k n)
  | .float k x => some (.f k x)
  | .string t => some (.s t)
  | _ => none

def scsOf : List Value → Option (List Sc)
  | [] => some []
  | v :: l => match scOf v, scsOf l with
    | some s, some ss => some (s :: ss)
    | _, _ => none

def Cont.put (c : Cont) (r j : Nat) (us : List Value) : Option Cont :=
  match c with
  | .fl k xs => match us with
    | [.float k' x] => bif sameF k k' && Nat.beq j 0 then some (.fl k (xs.set r x)) else none
    | _ => none
  | .it k xs => match us with
    | [.int k' x] => bif sameI k k' && Nat.beq j 0 then some (.it k (xs.set r x)) else none
    | _ => none
  | .cx k xs => match us with
    | [.complex k' x y] => bif sameF k k' && Nat.beq j 0 then some (.cx k (xs.set r (x, y))) else none
    | _ => none
  | .vs l => bif Nat.ble (j + us.length) l.length then some (.vs (splice l j us)) else none
  | .fn n sz g => match scsOf us with
    | some ss => bif Nat.ble (j + ss.length) sz then some (.fn n sz (fun i => bif Nat.beq i r then splice (g i) j ss else g i)) else none
    | none => none

def evStore (P : Program) (H : Heap) (t : TypeId) (x v : Value) : Option (Heap × List Prop) :=
  match x with
  | .pointer (some ⟨b, r, some j⟩) =>
    match blkAt H b with
    | some blk =>
      bif blk.own && allP one1 (cellsV v) && Nat.beq (cellsV v).length (P.cellsOf t) && (P.info? t).isSome then
        match blk.c.inb r, blk.c.put r j (cellsV v) with
        | some vc, some c => some (setAt H b (some ⟨true, c⟩), vc)
        | _, _ => none
      else none
    | none => none
  | _ => none

/-- 'n' rows of zeros. -/
def zeros (z : Value) (n : Nat) : Option Cont :=
  match z with
  | .float k x => bif plain1 (.float k x) then some (.fl k (List.replicate n x)) else none
  | .int k x => some (.it k (List.replicate n x))
  | .complex k x y => bif plain1 (.complex k x y) then some (.cx k (List.replicate n (x, y))) else none
  | .agg ⟨cs⟩ => match scsOf cs with
    | some ss => bif allP plain1 cs then some (.fn n ss.length (fun _ => ss)) else none
    | none => none
  | _ => none

def sizeOk (P : Program) (t : TypeId) (n : Nat) : Bool :=
  match P.info? t with
  | some i => Nat.beq i.size n
  | none => false

def evMake (P : Program) (H : Heap) (t : TypeId) (l c : Value) (n : Nat) : Option (Value × Heap × List Prop) :=
  match P.underlying t, l, c with
  | some (.slice el), .int _ a, .int _ b =>
    match P.info? el with
    | some i => match i.zero with
      | some z => match zeros z n with
        | some ct => bif Nat.beq i.size (cellsV z).length && Nat.blt 0 i.size then
            some (.slice (some ⟨H.length, 0, none⟩) n 1, H ++ [some ⟨true, ct⟩], [a = (n : Int), a ≤ b, b * (i.bytes : Int) ≤ 140737488355328, b ≤ 140737488355328])
          else none
        | none => none
      | none => none
    | none => none
  | _, _, _ => none

/-- Row number from a row and a further one. -/
def rowAdd (r n : Nat) : Nat := bif Nat.beq r 0 then n else r + n

def evIndexAddr (P : Program) (H : Heap) (t : TypeId) (x ix : Value) (n : Nat) : Option (Value × List Prop) :=
  match P.underlying t, x, ix with
  | some (.slice el), .slice (some ⟨b, r, none⟩) l _, .int _ i =>
    match blkAt H b with
    | some blk => bif sizeOk P el blk.c.sz then some (.pointer (some ⟨b, rowAdd r n, some 0⟩), [i = (n : Int), n < l]) else none
    | none => none
  | _, _, _ => none

def fieldOf (P : Program) (t : TypeId) (f : Nat) : Option Field :=
  match P.underlying t with
  | some (.struct ⟨fs⟩) => nth fs f
  | _ => none

def evFieldAddr (P : Program) (t : TypeId) (x : Value) (f : Nat) : Option Value :=
  match fieldOf P t f, x with
  | some fd, .pointer (some ⟨b, r, some j⟩) =>
    match P.info? fd.type with
    | some i => bif Nat.beq i.size 0 then none else some (.pointer (some ⟨b, r, some (j + fd.offset)⟩))
    | none => none
  | _, _ => none

def evField (P : Program) (t : TypeId) (x : Value) (f : Nat) : Option Value :=
  match fieldOf P t f, x with
  | some fd, .agg ⟨cs⟩ =>
    match isAggT P fd.type with
    | some true => (takeN (P.cellsOf fd.type) (dropN fd.offset cs)).map fun l => .agg ⟨l⟩
    | some false => nth cs fd.offset
    | none => none
  | _, _ => none

/-- A struct out of its fields: places, values. -/
def fillV (P : Program) (fs : List Field) (cells : List Value) : List (Nat × Value) → Option (List Value)
  | [] => some cells
  | (i, v) :: rest => match nth fs i with
    | some fd => bif Nat.beq (cellsV v).length (P.cellsOf fd.type) && Nat.ble (fd.offset + (cellsV v).length) cells.length && (P.info? fd.type).isSome
      then fillV P fs (splice cells fd.offset (cellsV v)) rest else none
    | none => none

def evParts (e : Env) : List (Nat × Operand) → Option (List (Nat × Value))
  | [] => some []
  | (i, x) :: l => match evx e x, evParts e l with
    | some v, some r => some ((i, v) :: r)
    | _, _ => none

def evBuild (P : Program) (t : TypeId) (parts : List (Nat × Value)) : Option Value :=
  match P.underlying t, P.info? t with
  | some (.struct ⟨fs⟩), some i => match i.zero with
    | some (.agg ⟨z⟩) => bif allP plain1 z && allInfo P fs then (fillV P fs z parts).map fun l => .agg ⟨l⟩ else none
    | _ => none
  | _, _ => none
where
  allInfo (P : Program) : List Field → Bool
    | [] => true
    | fd :: l => (P.info? fd.type).isSome && allInfo P l

/-- The content of a slice literal's block, by the kind of its values. -/
def litCont : List Value → Option Cont
  | [] => none
  | .float k x :: l => (go k l).map fun r => .fl k (x :: r)
  | .int k x :: l => (goI k l).map fun r => .it k (x :: r)
  | .complex k x y :: l => (goC k l).map fun r => .cx k ((x, y) :: r)
  | .agg ⟨cs⟩ :: [] => (scsOf cs).map fun ss => .fn 1 ss.length (fun _ => ss)
  | _ => none
where
  go (k : FloatKind) : List Value → Option (List Nat)
    | [] => some []
    | .float k' x :: l => bif sameF k k' then (go k l).map (x :: ·) else none
    | _ => none
  goI (k : IntKind) : List Value → Option (List Int)
    | [] => some []
    | .int k' x :: l => bif sameI k k' then (goI k l).map (x :: ·) else none
    | _ => none
  goC (k : FloatKind) : List Value → Option (List (Nat × Nat))
    | [] => some []
    | .complex k' x y :: l => bif sameF k k' then (goC k l).map ((x, y) :: ·) else none
    | _ => none

/-- The parts of a slice literal stand in order and leave no place out. -/
def inOrder : Nat → List (Nat × Value) → Option (List Value)
  | _, [] => some []
  | k, (i, v) :: l => bif Nat.beq i k then (inOrder (k + 1) l).map (v :: ·) else none

/-- An empty block, by a type's zero value. -/
def emptyCont (z : Value) : Option Cont := zeros z 0

def evBuildSlice (P : Program) (H : Heap) (t : TypeId) (len : Nat) (parts : List (Nat × Value)) : Option (Value × Heap) :=
  match P.underlying t with
  | some (.slice el) => match P.info? el, inOrder 0 parts with
    | some i, some vs => bif Nat.beq vs.length len && Nat.ble (len * i.size) 16777216 && Nat.blt 0 i.size then
        match len with
        | 0 => match i.zero with
          | some z => match emptyCont z with
            | some ct => bif Nat.beq ct.sz i.size then some (.slice (some ⟨H.length, 0, none⟩) 0 0, H ++ [some ⟨true, ct⟩]) else none
            | none => none
          | none => none
        | _ + 1 => match litCont vs with
          | some ct => bif Nat.beq ct.sz i.size && i.zero.isSome && Nat.beq (i.zero.getD undef).cells.size i.size then
              some (.slice (some ⟨H.length, 0, none⟩) len 1, H ++ [some ⟨true, ct⟩]) else none
          | none => none
      else none
    | _, _ => none
  | _ => none

/-- 'x[lo:hi]' and 'x[lo:hi:max]'; a bound that is there is told as a number. -/
def evSlice (P : Program) (H : Heap) (t : TypeId) (x : Value) (lo hi mx : Option Value) (nlo nhi : Nat) : Option (Value × List Prop) :=
  match P.underlying t, x with
  | some (.slice el), .slice (some ⟨b, r, none⟩) l _ =>
    match blkAt H b with
    | some blk => bif sizeOk P el blk.c.sz then
        match bound lo nlo 0, bound hi nhi l, hi, mx with
        | some vl, some vh, _, none => some (.slice (some ⟨b, rowAdd r nlo, none⟩) (nhi - nlo) 1, vl ++ vh ++ [nlo ≤ nhi, nhi ≤ l])
        | some vl, some vh, some _, some (.int _ m) => some (.slice (some ⟨b, rowAdd r nlo, none⟩) (nhi - nlo) 0, vl ++ vh ++ [nlo = nhi, nhi ≤ l, m = (nlo : Int)])
        | _, _, _, _ => none
      else none
    | none => none
  | _, _ => none
where
  bound (v : Option Value) (n dflt : Nat) : Option (List Prop) :=
    match v with
    | some (.int _ i) => some [i = (n : Int)]
    | none => some [n = dflt]
    | _ => none

/-- Rows 'r' to 'r + n - 1' of a content. -/
def Cont.cut (c : Cont) (r n : Nat) : Option (Cont × List Prop) :=
  match c with
  | .fl k xs => bif Nat.beq r 0 then some (.fl k xs, [n = xs.length]) else none
  | .it k xs => bif Nat.beq r 0 then some (.it k xs, [n = xs.length]) else none
  | .cx k xs => bif Nat.beq r 0 then some (.cx k xs, [n = xs.length]) else none
  | .fn m sz g => bif Nat.beq r 0 then some (.fn m sz g, [n = m]) else none
  | .vs _ => none

/-- Rows somewhere within a content. -/
def Cont.part (c : Cont) (r n : Nat) : Option (Cont × List Prop) :=
  match c with
  | .fl k xs => some (.fl k ((xs.drop r).take n), [r + n ≤ xs.length])
  | .it k xs => some (.it k ((xs.drop r).take n), [r + n ≤ xs.length])
  | .cx k xs => some (.cx k ((xs.drop r).take n), [r + n ≤ xs.length])
  | _ => none

def Cont.app (c d : Cont) : Option Cont :=
  match c, d with
  | .fl k xs, .fl k' ys => bif sameF k k' then some (.fl k (xs ++ ys)) else none
  | .it k xs, .it k' ys => bif sameI k k' then some (.it k (xs ++ ys)) else none
  | .cx k xs, .cx k' ys => bif sameF k k' then some (.cx k (xs ++ ys)) else none
  | .fn n sz g, .fn n' sz' g' => bif Nat.beq sz sz' then some (.fn (n + n') sz (fun i => bif Nat.blt i n then g i else g' (i - n))) else none
  | _, _ => none

/-- What is appended: a slice's rows ('whole': all rows of its block). -/
def srcCont (H : Heap) (x : Value) (whole : Bool) : Option (Cont × Nat × List Prop) :=
  match x with
  | .slice (some ⟨b, r, none⟩) n _ => match blkAt H b with
    | some blk => match (bif whole then blk.c.cut r n else blk.c.part r n) with
      | some (c, vc) => some (c, n, vc)
      | none => none
    | none => none
  | _ => none

/-- 'append(s, x...)': a slice that has no room gives a new block; else its block is taken over whole. -/
def evAppend (P : Program) (H : Heap) (t : TypeId) (s x : Value) (whole : Bool) : Option (Value × Heap × List Prop) :=
  match P.underlying t, srcCont H x whole with
  | some (.slice el), some (cx, n, vc) =>
    match P.info? el with
    | some i => bif Nat.beq cx.sz i.size && Nat.blt 0 i.size && Nat.ble i.bytes 1024 && i.zero.isSome && Nat.beq (i.zero.getD undef).cells.size i.size && allP one1 (cellsV (i.zero.getD undef)) then
        match s with
        | .slice none 0 0 => some (.slice (some ⟨H.length, 0, none⟩) n 1, H ++ [some ⟨true, cx⟩], vc ++ [n ≤ 1073741824])
        | .slice (some ⟨b, r, none⟩) l c =>
          bif Nat.beq c 0 && Nat.beq l 0 then some (.slice (some ⟨H.length, 0, none⟩) n 1, H ++ [some ⟨true, cx⟩], vc ++ [n ≤ 1073741824])
          else match blkAt H b with
          | some blk => bif blk.own then
              match blk.c.cut r l with
              | some (cs, vc') => match cs.app cx with
                | some c => some (.slice (some ⟨H.length, 0, none⟩) (l + n) 1, setAt H b none ++ [some ⟨true, c⟩], vc ++ vc' ++ [l + n ≤ 1073741824])
                | none => none
              | none => none
              else none
          | none => none
        | _ => none
      else none
    | none => none
  | _, _ => none

/-- 'copy(d, x)': of a whole slice, into a block that is whole and has as many rows at least. -/
def evCopy (P : Program) (H : Heap) (t : TypeId) (d x : Value) : Option (Value × Heap × List Prop) :=
  match P.underlying t, srcCont H x true, d with
  | some (.slice el), some (cx, n, vc), .slice (some ⟨b, r, none⟩) l _ =>
    match P.info? el, blkAt H b with
    | some i, some blk => bif Nat.beq cx.sz i.size && Nat.blt 0 i.size && blk.own then
        match blk.c.cut r l, blk.c.part n (l - n) with
        | some (_, vc1), some (cr, vc2) => match cx.app cr with
          | some c => some (.int .i64 (n : Int), setAt H b (some ⟨true, c⟩), vc ++ vc1 ++ vc2 ++ [n ≤ l, 0 < l])
          | none => none
        | _, _ => none
        else none
    | _, _ => none
  | _, _, _ => none

def evLen (P : Program) (t : TypeId) (x : Value) : Option Value :=
  match P.underlying t, x with
  | some (.slice _), .slice _ n _ => some (.int .i64 (n : Int))
  | some .string, .string s => some (.int .i64 (s.size : Int))
  | _, _ => none

/-- The lesser ('false'), the greater ('true') of two floats. -/
def fminmax (mx : Bool) (k : FloatKind) (x y : Nat) : Nat :=
  match k.format.order x y with
  | none => cNaN k
  | some .lt => bif mx then y else x
  | some .gt => bif mx then x else y
  | some .eq => if (k.decode x).neg then (bif mx then y else x) else (bif mx then x else y)

def evMinMax (mx : Bool) (x y : Value) : Option Value :=
  match x, y with
  | .int k a, .int k' b => bif sameI k k' then some (.int k (bif mx then (if b > a then b else a) else (if b < a then b else a))) else none
  | .float k a, .float k' b => bif sameF k k' then some (.float k (fminmax mx k a b)) else none
  | _, _ => none

structure Res where
  v : Value
  hp : Heap
  os : List Orc
  vc : List Prop

def rv (v : Value) (H : Heap) (os : List Orc) (vc : List Prop) : Option Res := some ⟨v, H, os, vc⟩

end Go.Sim
end

section
namespace Go.Sim
open Go

/-! ### Renaming of blocks -/

/-- The place of 'b' in 'm'. -/
def pos (b : Nat) : List Nat → Option Nat
  | [] => none
  | x :: l => bif Nat.beq b x then some 0 else (pos b l).map (· + 1)

/-- The value under new names: block 'm[k]' is called 'k'. -/
def rvI0 (m : List Nat) : Value → Option Value
  | .pointer (some ⟨b, i, s⟩) => match pos b m with
    | some b' => some (.pointer (some ⟨b', i, s⟩))
    | none => none
  | .slice (some ⟨b, i, s⟩) l c => match pos b m with
    | some b' => some (.slice (some ⟨b', i, s⟩) l c)
    | none => none
  | .bool b => some (.bool b)
  | .int k n => some (.int k n)
  | .float k x => some (.float k x)
  | .complex k x y => some (.complex k x y)
  | .string s => some (.string s)
  | .pointer none => some (.pointer none)
  | .slice none l c => some (.slice none l c)
  | .nilFunc => some .nilFunc
  | .tuple ⟨[]⟩ => some (.tuple ⟨[]⟩)
  | _ => none

def mapO {α β : Type} (f : α → Option β) : List α → Option (List β)
  | [] => some []
  | x :: l => match f x, mapO f l with
    | some y, some r => some (y :: r)
    | _, _ => none

def rvI1 (m : List Nat) : Value → Option Value
  | .agg ⟨l⟩ => (mapO (rvI0 m) l).map fun r => .agg ⟨r⟩
  | .func fn ⟨f⟩ ⟨c⟩ => match mapO (rvI0 m) f, mapO (rvI0 m) c with
    | some f', some c' => some (.func fn ⟨f'⟩ ⟨c'⟩)
    | _, _ => none
  | v => rvI0 m v

def rvI (m : List Nat) : Value → Option Value
  | .tuple ⟨l⟩ => (mapO (rvI1 m) l).map fun r => .tuple ⟨r⟩
  | v => rvI1 m v

def Cont.reI (m : List Nat) : Cont → Option Cont
  | .vs l => (mapO (rvI1 m) l).map .vs
  | c => some c

/-- The blocks 'm' of a memory, under their new names; a block may be handed on as one that is only read. -/
def heapIo (m : List Nat) (H : Heap) : List (Nat × Bool) → Option Heap
  | [] => some []
  | (b, o) :: l => match nth H b, heapIo m H l with
    | some (some blk), some r => (blk.c.reI m).map fun c => some ⟨blk.own && o, c⟩ :: r
    | some none, some r => some (none :: r)
    | _, _ => none

def memN (b : Nat) : List Nat → Bool
  | [] => false
  | x :: l => Nat.beq b x || memN b l

/-- A block that is handed on to be written is handed on once. -/
def onceOwn : List (Nat × Bool) → Bool
  | [] => true
  | (b, o) :: l => (!o && !memN b (l.filterMap fun p => bif p.2 then some p.1 else none) || o && !memN b (l.map (·.1))) && onceOwn l

/-- From a callee's name of a block to the caller's. -/
def backN (m : List Nat) (n : Nat) (k : Nat) : Nat :=
  match nth m k with
  | some b => b
  | none => n + (k - m.length)

def rvF0 (f : Nat → Nat) : Value → Option Value
  | .pointer (some ⟨b, i, s⟩) => some (.pointer (some ⟨f b, i, s⟩))
  | .slice (some ⟨b, i, s⟩) l c => some (.slice (some ⟨f b, i, s⟩) l c)
  | .bool b => some (.bool b)
  | .int k n => some (.int k n)
  | .float k x => some (.float k x)
  | .complex k x y => some (.complex k x y)
  | .string s => some (.string s)
  | .pointer none => some (.pointer none)
  | .slice none l c => some (.slice none l c)
  | .nilFunc => some .nilFunc
  | .tuple ⟨[]⟩ => some (.tuple ⟨[]⟩)
  | _ => none

def rvF1 (f : Nat → Nat) : Value → Option Value
  | .agg ⟨l⟩ => (mapO (rvF0 f) l).map fun r => .agg ⟨r⟩
  | .func fn ⟨g⟩ ⟨c⟩ => match mapO (rvF0 f) g, mapO (rvF0 f) c with
    | some f', some c' => some (.func fn ⟨f'⟩ ⟨c'⟩)
    | _, _ => none
  | v => rvF0 f v

def rvF (f : Nat → Nat) : Value → Option Value
  | .tuple ⟨l⟩ => (mapO (rvF1 f) l).map fun r => .tuple ⟨r⟩
  | v => rvF1 f v

def Cont.reF (f : Nat → Nat) : Cont → Option Cont
  | .vs l => (mapO (rvF1 f) l).map .vs
  | c => some c

def blkF (f : Nat → Nat) : Option Blk → Option (Option Blk)
  | none => some none
  | some b => (b.c.reF f).map fun c => some ⟨b.own, c⟩

/-- The caller's memory behind a call: blocks that were handed on to be written are as the callee left them; the callee's new ones come behind. -/
def mergeOld (f : Nat → Nat) (H : Heap) : List (Nat × Bool) → Heap → Option Heap
  | [], _ => some H
  | _ :: _, [] => none
  | (b, o) :: l, x :: r =>
    match (match nth H b with | some (some blk) => blk.own && o | _ => false) with
    | true => match blkF f x with
      | some x' => mergeOld f (setAt H b x') l r
      | none => none
    | false => mergeOld f H l r

def allOwn : Heap → Bool
  | [] => true
  | none :: l => allOwn l
  | some b :: l => b.own && allOwn l

def merge (f : Nat → Nat) (H : Heap) (m : List (Nat × Bool)) (hl : Heap) : Option Heap :=
  match mergeOld f H m hl, mapO (blkF f) (dropN m.length hl) with
  | some h, some n => bif Nat.ble m.length hl.length && allOwn (dropN m.length hl) then some (h ++ n) else none
  | _, _ => none

/-! ### Calls -/

section
variable (P : Program)

/-- A call of a function with a body: from these values and this memory to this value and this memory, whatever the tape says. -/
def Ev (f : FuncId) (args : List Value) (H : Heap) (v : Value) (H' : Heap) : Prop :=
  ∀ (ι : List Place) (w : World) (args' : List Value), RH ι H w → VRs ι args args' →
    (callFunc f ⟨args'⟩).run P w = .ok (.enter f ⟨args'⟩) w ∧
    Calls P f ⟨args'⟩ w fun e w' => ∃ ι' v', e = .returned v' ∧ VR ι' v v' ∧ Ext ι H w ι' H' w'

/-- A call of a function of the model's own. -/
def EvX (f : FuncId) (args : List Value) (v : Value) : Prop :=
  ∀ (ι : List Place) (w : World) (args' : List Value), VRs ι args args' →
    ∃ v' w', (callFunc f ⟨args'⟩).run P w = .ok (.value v') w' ∧ Drawn w w' ∧ VR [] v v'

end

/-! ### Operations -/

def opBool (os : List Orc) : Option (Bool × List Orc) :=
  match os with
  | .b t :: r => some (t, r)
  | _ => none
def opNum (os : List Orc) : Option (Nat × List Orc) :=
  match os with
  | .n t :: r => some (t, r)
  | _ => none

def vp (r : Option (Value × List Prop)) (H : Heap) (os : List Orc) : Option Res :=
  match r with
  | some (v, vc) => some ⟨v, H, os, vc⟩
  | none => none

def vo (r : Option Value) (H : Heap) (os : List Orc) : Option Res :=
  match r with
  | some v => some ⟨v, H, os, []⟩
  | none => none

def vh (r : Option (Value × Heap × List Prop)) (os : List Orc) : Option Res :=
  match r with
  | some (v, H, vc) => some ⟨v, H, os, vc⟩
  | none => none

def evOpt (e : Env) : Option Operand → Option (Option Value)
  | none => some none
  | some x => (evx e x).map some

def isStrT (P : Program) (t : TypeId) : Bool :=
  match P.underlying t with
  | some .string => true
  | _ => false

/-- A call through a function value. -/
def evCall (P : Program) (fv : Value) (args : List Value) (H : Heap) (os : List Orc) : Option Res :=
  match fv, os with
  | .func (.func f) ⟨first⟩ ⟨capt⟩, .c m v hl :: r =>
    match mapO (rvI (m.map (·.1))) (first ++ args ++ capt), heapIo (m.map (·.1)) H m, onceOwn m with
    | some cargs, some ch, true =>
      match rvF (backN (m.map (·.1)) H.length) v, merge (backN (m.map (·.1)) H.length) H m hl with
      | some v', some H' => some ⟨v', H', r, [Ev P f cargs ch v hl]⟩
      | _, _ => none
    | _, _, _ => none
  | .func (.func f) ⟨first⟩ ⟨capt⟩, .x v :: r => some ⟨v, H, r, [EvX P f (first ++ args ++ capt) v]⟩
  | _, _ => none

def evBuiltin (P : Program) (b : Builtin) (ts : List TypeId) (args : List Value) (H : Heap) (os : List Orc) : Option Res :=
  match b, ts, args with
  | .len, t :: _, x :: _ => vo (evLen P t x) H os
  | .append, [t, t'], [s, x] => match opBool os with
    | some (whole, r) => bif Nat.beq t t' then vh (evAppend P H t s x whole) r else none
    | none => none
  | .copy, t :: _, [d, x] => vh (evCopy P H t d x) os
  | .max, _, [x, y] => vo (evMinMax true x y) H os
  | .min, _, [x, y] => vo (evMinMax false x y) H os
  | .real, _, [.complex k x _] => rv (.float k x) H os []
  | .imag, _, [.complex k _ y] => rv (.float k y) H os []
  | .complex, _, [.float k x, .float k' y] => bif sameF k k' then rv (.complex k x y) H os [] else none
  | _, _, _ => none

def evOp (P : Program) (o : Op) (e : Env) (H : Heap) (os : List Orc) : Option Res :=
  match o with
  | .move x => vo (evx e x) H os
  | .assign x => vo (evx e x) H os
  | .pick c a b => match evx e c, opBool os with
    | some (.bool t), some (t', r) => vp ((evx e (bif t' then a else b)).map fun v => (v, [t = t'])) H r
    | _, _ => none
  | .box _ x => match evx e x with
    | some v => bif allP one1 (cellsV v) then some ⟨.pointer (some ⟨H.length, 0, some 0⟩), H ++ [some ⟨true, .vs (cellsV v)⟩], os, []⟩ else none
    | none => none
  | .alloc t => match P.info? t with
    | some i => match i.zero with
      | some z => bif plain z && allP one1 (cellsV z) then some ⟨.pointer (some ⟨H.length, 0, some 0⟩), H ++ [some ⟨true, .vs (cellsV z)⟩], os, []⟩ else none
      | none => none
    | none => none
  | .build t ps => match evParts e ps.toList with
    | some l => vo (evBuild P t l) H os
    | none => none
  | .buildSlice t n ps => match evParts e ps.toList with
    | some l => match evBuildSlice P H t n l with
      | some (v, H') => some ⟨v, H', os, []⟩
      | none => none
    | none => none
  | .load t a => match evx e a with
    | some x => vp (evLoad P H t x) H os
    | none => none
  | .store t a x => match evx e a, evx e x with
    | some av, some v => match evStore P H t av v with
      | some (H', vc) => some ⟨undef, H', os, vc⟩
      | none => none
    | _, _ => none
  | .nilCheck x => match evx e x with
    | some (.pointer (some a)) => rv (.pointer (some a)) H os []
    | some (.func (.func f) fs cs) => rv (.func (.func f) fs cs) H os []
    | _ => none
  | .binOp op t x y _ => match evx e x, evx e y with
    | some a, some b => vp (evBin P op t a b) H os
    | _, _ => none
  | .unOp op _ x => match evx e x with
    | some a => vp (evUn op a) H os
    | none => none
  | .convert s d x => match evx e x with
    | some a => vp (evConv P s d a) H os
    | none => none
  | .makeFunc fn fs cs => match evxs e fs.toList, evxs e cs.toList with
    | some f, some c => rv (.func fn ⟨f⟩ ⟨c⟩) H os []
    | _, _ => none
  | .makeSlice t l c => match evx e l, evx e c, opNum os with
    | some a, some b, some (n, r) => vh (evMake P H t a b n) r
    | _, _, _ => none
  | .slice t x lo hi mx => match evx e x, evOpt e lo, evOpt e hi, evOpt e mx, os with
    | some v, some l, some h, some m, .n nlo :: .n nhi :: r => vp (evSlice P H t v l h m nlo nhi) H r
    | _, _, _, _, _ => none
  | .fieldAddr t x f => match evx e x with
    | some a => vo (evFieldAddr P t a f) H os
    | none => none
  | .field t x f => match evx e x with
    | some a => vo (evField P t a f) H os
    | none => none
  | .indexAddr t x i => match evx e x, evx e i, opNum os with
    | some a, some b, some (n, r) => vp (evIndexAddr P H t a b n) H r
    | _, _, _ => none
  | .index t x i => match evx e x, evx e i, opNum os with
    | some (.string s), some (.int _ k), some (n, r) => bif isStrT P t then rv (.int .u8 ((s.data.toList.getD n 0).toNat : Int)) H r [k = (n : Int), n < s.size] else none
    | _, _, _ => none
  | .extract x i => match evx e x with
    | some (.tuple ⟨l⟩) => vo (nth l i) H os
    | _ => none
  | .call ⟨.builtin b, args, ts⟩ => match evxs e args.toList with
    | some vs => evBuiltin P b ts.toList vs H os
    | none => none
  | .call ⟨.value f, args, _⟩ => match evx e f, evxs e args.toList with
    | some fv, some vs => evCall P fv vs H os
    | _, _ => none
  | _ => none

/-- The guard's answer: none: it is asked for; else what the operation that is looked at gave. -/
def guardB (ops : List Oper) (e : Env) (o : Oper) (os : List Orc) : Option (Bool × List Orc × List Prop) :=
  match o.guard with
  | none => some (true, os, [])
  | some (j, want) => match nth ops j with
    | some oj => match oj.dst with
      | some d => match look d e, os with
        | some (.tuple ⟨[]⟩), os => some (false, os, [])
        | some (.bool t), .b t' :: r => some (bif want then t' else !t', r, [t = t'])
        | _, _ => none
      | none => none
    | none => none

def putD (N : Nat) (d : Option Tmp) (v : Value) (e : Env) : Option Env :=
  match d with
  | none => some e
  | some t => bif Nat.blt t N then some (ins t v e) else none

def bytesOf (xs : List Int) : ByteArray := ⟨⟨xs.map fun n => UInt8.ofNat n.toNat⟩⟩

/-- Bytes taken as a text (in a region that keeps the text's order). -/
def evText (P : Program) (o : Op) (e : Env) (H : Heap) : Option (Value × List Prop) :=
  match o with
  | .convert s d x => match evx e x, P.underlying s, P.underlying d with
    | some (.slice (some ⟨b, r, none⟩) l _), some (.slice el), some .string => match P.underlying el, blkAt H b with
      | some (.int .u8), some ⟨_, .it .u8 xs⟩ => bif Nat.beq r 0 then some (.string (bytesOf xs), [l = xs.length]) else none
      | _, _ => none
    | _, _, _ => none
  | _ => none

def evOpS (P : Program) (o : Op) (e : Env) (H : Heap) (os : List Orc) : Option Res :=
  match evText P o e H with
  | some (v, vc) => some ⟨v, H, os, vc⟩
  | none => evOp P o e H os

/-- The operations of a region, in their order. 'all': the whole region. -/
def evOps (P : Program) (N : Nat) (all : List Oper) : List Oper → St → List Orc → Option (St × List Orc × List Prop)
  | [], s, os => some (s, os, [])
  | o :: l, s, os =>
    match guardB all s.tm o os with
    | some (true, os1, vg) =>
      match evOpS P o.op s.tm s.hp os1 with
      | some r => match putD N o.dst r.v s.tm with
        | some e => match evOps P N all l ⟨e, r.hp⟩ r.os with
          | some (s', os', vc) => some (s', os', vg ++ r.vc ++ vc)
          | none => none
        | none => none
      | none => none
    | some (false, os1, vg) =>
      match putD N o.dst undef s.tm with
      | some e => match evOps P N all l ⟨e, s.hp⟩ os1 with
        | some (s', os', vc) => some (s', os', vg ++ vc)
        | none => none
      | none => none
    | none => none

/-! ### Code -/

structure Rel (N : Nat) (ι : List Place) (s : St) (a : Act) (w : World) : Prop where
  size : a.tmps.size = N
  defers : a.defers = []
  env : ∀ (t : Nat) (v : Value), look t s.tm = some v → t < N ∧ VR ι v (a.tmps.getD t undef)
  rh : RH ι s.hp w

structure ExtN (n0 : Nat) (ι : List Place) (H : Heap) (w : World) (ι' : List Place) (H' : Heap) (w' : World) : Prop where
  pre : ∃ l, ι' = ι.take n0 ++ l
  len : n0 ≤ ι.length
  fr : Fr (Own ι H) w w'
  fresh : ∀ rb, Own ι' H' rb → Own ι H rb ∨ w.heap.size ≤ rb

/-- The code leads from this state to this one, and leaves so. -/
def PW (P : Program) (N n0 : Nat) (c : Code) (s : St) (e : Exit) (s' : St) : Prop :=
  ∀ (ι : List Place) (a : Act) (w : World), Rel N ι s a w → n0 ≤ s.hp.length →
    c.wp P (fun e' a' w' => e' = e ∧ ∃ ι', Rel N ι' s' a' w' ∧ ExtN n0 ι s.hp w ι' s'.hp w' ∧ n0 ≤ s'.hp.length) a w

def AllP : List Prop → Prop
  | [] => True
  | p :: l => p ∧ AllP l

end Go.Sim
end

section
namespace Go.Sim
open Go

theorem vr_plain1 {ι : List Place} {v : Value} (h : plain1 v = true) : VR ι v v := by
  cases v with
  | bool b => exact .bool b
  | int k n => exact .int k n
  | float k b =>
    simp [plain1] at h
    exact .float (canon_of_not h.1) (by simpa [okW] using h.2)
  | complex k a b =>
    simp [plain1] at h
    exact .complex (canon_of_not h.1.1.1) (by simpa [okW] using h.1.1.2) (canon_of_not h.1.2) (by simpa [okW] using h.2)
  | string s => exact .string s
  | pointer a => cases a with
    | none => exact .nilp
    | some a => simp [plain1] at h
  | slice a l c => cases a with
    | none => cases l with
      | zero => cases c with
        | zero => exact .nils
        | succ c => simp [plain1] at h
      | succ l => simp [plain1] at h
    | some a => simp [plain1] at h
  | nilFunc => exact .nilFunc
  | _ => simp [plain1] at h

theorem vrs_plain1 {ι : List Place} : ∀ {l : List Value}, allP plain1 l = true → VRs ι l l
  | [], _ => .nil
  | v :: l, h => by
    simp [allP] at h
    exact .cons (vr_plain1 h.1) (vrs_plain1 h.2)

theorem vr_plain {ι : List Place} {v : Value} (h : plain v = true) : VR ι v v := by
  cases v with
  | agg cs => obtain ⟨l⟩ := cs; exact .agg (vrs_plain1 (by simpa [plain] using h))
  | tuple cs => obtain ⟨l⟩ := cs; exact .tuple (vrs_plain1 (by simpa [plain] using h))
  | _ => exact vr_plain1 (by simpa [plain] using h)

theorem vr_undef {ι : List Place} : VR ι undef undef := .tuple .nil

/-- What the operands stand for. -/
def EnvOk (ι : List Place) (e : Env) (ρ : Operand → Value) : Prop := ∀ (x : Operand) (v : Value), evx e x = some v → VR ι v (ρ x)

theorem EnvOk.of_rel {N : Nat} {ι : List Place} {s : St} {a : Act} {w : World} (h : Rel N ι s a w) : EnvOk ι s.tm a.eval := by
  intro x v hx
  cases x with
  | tmp t => exact (h.env t v hx).2
  | const c =>
    simp only [evx] at hx
    cases hp : plain c with
    | true => rw [hp] at hx; cases hx; exact vr_plain hp
    | false => rw [hp] at hx; cases hx
  | func f => cases hx; exact .func (.func f) .nil .nil
  | global g => cases hx

theorem EnvOk.mono {ι ι' : List Place} {e : Env} {ρ : Operand → Value} (h : EnvOk ι e ρ) (hs : Sub ι ι') : EnvOk ι' e ρ :=
  fun x v hx => (h x v hx).mono hs

theorem EnvOk.list {ι : List Place} {e : Env} {ρ : Operand → Value} (h : EnvOk ι e ρ) : ∀ {l : List Operand} {vs : List Value}, evxs e l = some vs → VRs ι vs (l.map ρ)
  | [], vs, hx => by cases hx; exact .nil
  | x :: l, vs, hx => by
    simp only [evxs] at hx
    cases h1 : evx e x with
    | none => simp [h1] at hx
    | some v => cases h2 : evxs e l with
      | none => simp [h1, h2] at hx
      | some r =>
        simp [h1, h2] at hx; subst hx
        exact .cons (h x v h1) (EnvOk.list h h2)

/-- An operation that gives a value and leaves memory alone. -/
def Quiet (P : Program) (m : Sem Value) (ι : List Place) (w : World) (v : Value) : Prop :=
  ∃ v' w', m.run P w = .ok v' w' ∧ Drawn w w' ∧ VR ι v v'

theorem Quiet.pure {P : Program} {ι : List Place} {w : World} {v v' : Value} (h : VR ι v v') : Quiet P (Pure.pure v') ι w v := ⟨v', w, rfl, Drawn.refl w, h⟩

theorem wrap_in {k : IntKind} {n : Int} (h : inR k n) : k.wrap n = n := by
  obtain ⟨h1, h2⟩ := h
  cases k <;> simp [IntKind.min, IntKind.max, IntKind.signed, IntKind.bits] at h1 h2 <;> simp [IntKind.wrap, IntKind.signed, IntKind.bits] <;> (try split) <;> omega

section
variable {P : Program} {ι : List Place} {w : World}

theorem evInt_sound {op : BinOp} {k k' : IntKind} {a b : Int} {v : Value} {vc : List Prop} (hk : isShift op = true ∨ k = k') (h : evInt op k a b = some (v, vc)) (hv : AllP vc) (t : TypeId) :
    Quiet P (binOp op t (.int k a) (.int k' b)) ι w v := by
  have hR : ∀ {n : Int}, inR k n → Quiet P (Pure.pure (.int k (k.wrap n))) ι w (.int k n) := fun hn => by rw [wrap_in hn]; exact Quiet.pure (.int _ _)
  cases op with
  | add =>
    rcases hk with hk | rfl; cases hk
    simp only [evInt] at h
    simp only [binOp, Op.intArith, ne_eq, not_true, if_false]
    cases hs : k.signed <;> simp only [hs, cond_true, cond_false, Option.some.injEq, Prod.mk.injEq] at h <;> obtain ⟨rfl, rfl⟩ := h
    · exact Quiet.pure (.int _ _)
    · exact hR hv.1
  | sub =>
    rcases hk with hk | rfl; cases hk
    simp only [evInt] at h
    simp only [binOp, Op.intArith, ne_eq, not_true, if_false]
    cases hs : k.signed <;> simp only [hs, cond_true, cond_false, Option.some.injEq, Prod.mk.injEq] at h <;> obtain ⟨rfl, rfl⟩ := h
    · exact Quiet.pure (.int _ _)
    · exact hR hv.1
  | mul =>
    rcases hk with hk | rfl; cases hk
    simp only [evInt] at h
    simp only [binOp, Op.intArith, ne_eq, not_true, if_false]
    cases hs : k.signed <;> simp only [hs, cond_true, cond_false, Option.some.injEq, Prod.mk.injEq] at h <;> obtain ⟨rfl, rfl⟩ := h
    · exact Quiet.pure (.int _ _)
    · exact hR hv.1
  | quo =>
    rcases hk with hk | rfl; cases hk
    simp only [evInt, Option.some.injEq, Prod.mk.injEq] at h; obtain ⟨rfl, rfl⟩ := h
    simp only [binOp, Op.intDiv, ne_eq, not_true, if_false]
    rw [if_neg hv.1]
    exact hR hv.2.1
  | rem =>
    rcases hk with hk | rfl; cases hk
    simp only [evInt, Option.some.injEq, Prod.mk.injEq] at h; obtain ⟨rfl, rfl⟩ := h
    simp only [binOp, Op.intDiv, ne_eq, not_true, if_false]
    rw [if_neg hv.1]
    exact Quiet.pure (.int _ _)
  | shl =>
    simp only [evInt, Option.some.injEq, Prod.mk.injEq] at h; obtain ⟨rfl, rfl⟩ := h
    have h0 : ¬ b < 0 := by have := hv.1; omega
    simp only [binOp, Op.shift, if_neg h0]
    exact Quiet.pure (.int _ _)
  | shr =>
    simp only [evInt, Option.some.injEq, Prod.mk.injEq] at h; obtain ⟨rfl, rfl⟩ := h
    have h0 : ¬ b < 0 := by have := hv.1; omega
    simp only [binOp, Op.shift, if_neg h0]
    exact Quiet.pure (.int _ _)
  | _ =>
    rcases hk with hk | rfl; cases hk
    simp only [evInt, Option.some.injEq, Prod.mk.injEq] at h; obtain ⟨rfl, rfl⟩ := h
    simp only [binOp, Op.intBits, Op.intCmp, ne_eq, not_true, if_false]
    first | exact Quiet.pure (.int _ _) | exact Quiet.pure (.bool _)

theorem sameI_eq {k k' : IntKind} (h : sameI k k' = true) : k = k' := by cases k <;> cases k' <;> first | rfl | cases h
theorem sameF_eq {k k' : FloatKind} (h : sameF k k' = true) : k = k' := by cases k <;> cases k' <;> first | rfl | cases h

theorem run_eqGuard_ok (op : BinOp) (t : TypeId) (x y : Operand) {a b : Value} (h : ∀ cs ds, ¬ (a = .agg cs ∧ b = .agg ds)) (h' : ¬ (a = .nilIface ∧ b = .nilIface)) :
    (eqGuard op t x y a b).run P w = .ok () w := by
  unfold eqGuard
  cases op <;> simp <;> (split <;> first | rfl | (rename_i h1 h2; exact absurd ⟨rfl, rfl⟩ h') | (rename_i h1 h2; exact absurd ⟨rfl, rfl⟩ (h _ _)) | skip)


theorem arith_run (op : BinOp) (hop : isArith op = true) (k : FloatKind) (x y a b : Nat) (hx : canon k x = a) (hy : canon k y = b) (w : World) :
    ∃ r w', (Op.floatArith op k x y).run P w = .ok (.float k r) w' ∧ Drawn w w' ∧ okW k r ∧ canon k r = fop op k a b := by
  subst hx; subst hy
  exact run_floatArith op k x y w (by cases op <;> simp [isArith] at hop <;> simp)

theorem Drawn.trans {a b c : World} (h : Drawn a b) (g : Drawn b c) : Drawn a c := by
  obtain ⟨n, rfl⟩ := h
  obtain ⟨m, rfl⟩ := g
  exact ⟨n + m, by simp [Nat.add_assoc]⟩

theorem carith_run (op : BinOp) (hop : isArith op = true) (k : FloatKind) (x y a b : Nat) (hx : canon k x = a) (hy : canon k y = b) (w : World) :
    ∃ r w', (Op.Complex.arith op k x y).run P w = .ok r w' ∧ Drawn w w' ∧ okW k r ∧ canon k r = fop op k a b := by
  obtain ⟨r, w', h1, h2, h3, h4⟩ := arith_run (P := P) op hop k x y a b hx hy w
  exact ⟨r, w', by simp [Op.Complex.arith, h1], h2, h3, h4⟩

theorem floatCmp_run (op : BinOp) (hop : isCmp op = true) (k : FloatKind) (x y a b : Nat) (hx : canon k x = a) (hy : canon k y = b) (w : World) :
    (Op.floatCmp op k x y).run P w = .ok (.bool (fcmp op k a b)) w := by
  subst hx; subst hy
  rw [fcmp_canon]
  cases op <;> simp [isCmp] at hop <;> rfl

theorem run_eql_slice_nil0 (t e : TypeId) (a : Option Addr) (l c : Nat) (h : P.underlying t = some (.slice e)) : (binOp .eql t (.slice a l c) (.slice none 0 0)).run P w = .ok (.bool a.isNone) w := by
  simp only [binOp]
  simp [run_equal_slice_nil w t e a l c h]

theorem evBin_sound {op : BinOp} {t : TypeId} {x y v x' y' : Value} {vc : List Prop} (h : evBin P op t x y = some (v, vc)) (hv : AllP vc) (hx : VR ι x x') (hy : VR ι y y') (xo yo : Operand) :
    Quiet P (do eqGuard op t xo yo x' y'; binOp op t x' y') ι w v := by
  unfold evBin at h
  split at h
  · -- int
    rename_i k a k' b
    cases hx; cases hy
    have hk : isShift op = true ∨ k = k' := by
      cases h1 : isShift op
      · cases h2 : sameI k k'
        · simp [h1, h2] at h
        · exact .inr (sameI_eq h2)
      · exact .inl rfl
    have h' : evInt op k a b = some (v, vc) := by
      revert h; cases (isShift op || sameI k k') <;> simp
    obtain ⟨v', w', h1, h2, h3⟩ := evInt_sound (P := P) (ι := ι) (w := w) hk h' hv t
    exact ⟨v', w', by simp [run_eqGuard_ok, h1], h2, h3⟩
  · -- float
    rename_i k a k' b
    cases hx with | float hx1 hx2 =>
    cases hy with | float hy1 hy2 =>
    cases hk : sameF k k'
    · simp [hk] at h
    · obtain rfl := sameF_eq hk
      simp only [hk, cond_true] at h
      cases h1 : isArith op
      · simp only [h1, cond_false] at h
        cases h2 : isCmp op
        · simp [h2] at h
        · simp only [h2, cond_true, Option.some.injEq, Prod.mk.injEq] at h
          obtain ⟨rfl, rfl⟩ := h
          have hr := floatCmp_run (P := P) op h2 k _ _ _ _ hx1 hy1 w
          refine ⟨_, w, ?_, Drawn.refl w, .bool _⟩
          rw [← hr]
          cases op <;> simp [isCmp] at h2 <;> simp [binOp, run_eqGuard_ok]
      · simp only [h1, cond_true, Option.some.injEq, Prod.mk.injEq] at h
        obtain ⟨rfl, rfl⟩ := h
        obtain ⟨r, w', g1, g2, g3, g4⟩ := arith_run (P := P) op h1 k _ _ _ _ hx1 hy1 w
        refine ⟨_, w', ?_, g2, .float g4 g3⟩
        rw [← g1]
        cases op <;> simp [isArith] at h1 <;> simp [binOp, run_eqGuard_ok]
  · -- complex
    rename_i k a b k' c d
    cases hx with | complex hx1 hx2 hx3 hx4 =>
    cases hy with | complex hy1 hy2 hy3 hy4 =>
    cases hk : sameF k k'
    · simp [hk] at h
    · obtain rfl := sameF_eq hk
      simp only [hk, cond_true] at h
      cases op <;> simp only [Option.some.injEq, Prod.mk.injEq, reduceCtorEq] at h
      · obtain ⟨rfl, rfl⟩ := h
        obtain ⟨r, w1, g1, g2, g3, g4⟩ := carith_run (P := P) .add rfl k _ _ _ _ hx1 hy1 w
        obtain ⟨s, w2, f1, f2, f3, f4⟩ := carith_run (P := P) .add rfl k _ _ _ _ hx3 hy3 w1
        exact ⟨.complex k r s, w2, by simp [binOp, run_eqGuard_ok, Op.complexOp, g1, f1], g2.trans f2, .complex g4 g3 f4 f3⟩
      · obtain ⟨rfl, rfl⟩ := h
        obtain ⟨r, w1, g1, g2, g3, g4⟩ := carith_run (P := P) .sub rfl k _ _ _ _ hx1 hy1 w
        obtain ⟨s, w2, f1, f2, f3, f4⟩ := carith_run (P := P) .sub rfl k _ _ _ _ hx3 hy3 w1
        exact ⟨.complex k r s, w2, by simp [binOp, run_eqGuard_ok, Op.complexOp, g1, f1], g2.trans f2, .complex g4 g3 f4 f3⟩
      · obtain ⟨rfl, rfl⟩ := h
        exact ⟨_, w, by simp [binOp, run_eqGuard_ok, Op.complexOp, Op.Complex.cmp, asBool, floatCmp_run (P := P) .eql rfl k _ _ _ _ hx1 hy1 w, floatCmp_run (P := P) .eql rfl k _ _ _ _ hx3 hy3 w], Drawn.refl w, .bool _⟩
      · obtain ⟨rfl, rfl⟩ := h
        exact ⟨_, w, by simp [binOp, run_eqGuard_ok, Op.complexOp, Op.Complex.cmp, asBool, floatCmp_run (P := P) .eql rfl k _ _ _ _ hx1 hy1 w, floatCmp_run (P := P) .eql rfl k _ _ _ _ hx3 hy3 w], Drawn.refl w, .bool _⟩
  · -- string
    cases hx; cases hy
    rename_i a b
    cases op <;> simp only [evStr, Option.map_some, Option.map_none, Option.some.injEq, Prod.mk.injEq, reduceCtorEq] at h <;>
      (obtain ⟨rfl, rfl⟩ := h; refine ⟨_, w, ?_, Drawn.refl w, .bool _⟩; simp [binOp, run_eqGuard_ok, Op.stringOp])
  · -- bool
    cases hx; cases hy
    rename_i a b
    cases hb : isBoolT P t
    · simp [hb] at h
    · have hu : P.underlying t = some .bool := by
        unfold isBoolT at hb
        cases hu : P.underlying t with
        | none => simp [hu] at hb
        | some d => cases d <;> simp [hu] at hb; rfl
      simp only [hb, cond_true] at h
      cases op <;> simp only [Option.some.injEq, Prod.mk.injEq, reduceCtorEq] at h
      · obtain ⟨rfl, rfl⟩ := h
        exact ⟨_, w, by simp [run_eqGuard_ok, run_eql_bool _ _ _ _ hu], Drawn.refl w, .bool _⟩
      · obtain ⟨rfl, rfl⟩ := h
        exact ⟨_, w, by simp [run_eqGuard_ok, run_neq_bool _ _ _ _ hu], Drawn.refl w, .bool _⟩
  · -- a slice and nil
    rename_i ad l c
    cases hb : isSliceT P t
    · simp [hb] at h
    · obtain ⟨el, hu⟩ : ∃ el, P.underlying t = some (.slice el) := by
        unfold isSliceT at hb
        cases hu : P.underlying t with
        | none => simp [hu] at hb
        | some d => cases d <;> simp [hu] at hb; exact ⟨_, rfl⟩
      simp only [hb, cond_true] at h
      cases hy
      cases op <;> simp only [Option.some.injEq, Prod.mk.injEq, reduceCtorEq] at h
      · obtain ⟨rfl, rfl⟩ := h
        cases hx with
        | slice h1 h2 h3 h4 h5 => exact ⟨_, w, by simp [run_eqGuard_ok, run_eql_slice_nil0 _ _ _ _ _ hu], Drawn.refl w, .bool _⟩
        | slice0 hx =>
          rename_i x
          cases hc : Nat.beq _ 2 with
          | false => rw [hc] at hv; exact absurd hv.1 (by omega)
          | true => cases x with
            | none => exact absurd rfl (hx hc)
            | some x => exact ⟨_, w, by simp [run_eqGuard_ok, run_eql_slice_nil0 _ _ _ _ _ hu], Drawn.refl w, .bool _⟩
      · obtain ⟨rfl, rfl⟩ := h
        cases hx with
        | slice h1 h2 h3 h4 h5 => exact ⟨_, w, by simp [run_eqGuard_ok, run_neq_slice_nil _ _ _ _ _ _ hu], Drawn.refl w, .bool _⟩
        | slice0 hx =>
          rename_i x
          cases hc : Nat.beq _ 2 with
          | false => rw [hc] at hv; exact absurd hv.1 (by omega)
          | true => cases x with
            | none => exact absurd rfl (hx hc)
            | some x => exact ⟨_, w, by simp [run_eqGuard_ok, run_neq_slice_nil _ _ _ _ _ _ hu], Drawn.refl w, .bool _⟩
  · -- nil and nil
    cases hb : isSliceT P t
    · simp [hb] at h
    · obtain ⟨el, hu⟩ : ∃ el, P.underlying t = some (.slice el) := by
        unfold isSliceT at hb
        cases hu : P.underlying t with
        | none => simp [hu] at hb
        | some d => cases d <;> simp [hu] at hb; exact ⟨_, rfl⟩
      simp only [hb, cond_true] at h
      cases hx; cases hy
      cases op <;> simp only [Option.some.injEq, Prod.mk.injEq, reduceCtorEq] at h
      · obtain ⟨rfl, rfl⟩ := h
        exact ⟨_, w, by simp [run_eqGuard_ok, run_eql_slice_nil0 _ _ _ _ _ hu], Drawn.refl w, .bool _⟩
      · obtain ⟨rfl, rfl⟩ := h
        exact ⟨_, w, by simp [run_eqGuard_ok, run_neq_slice_nil _ _ _ _ _ _ hu], Drawn.refl w, .bool _⟩
  · cases h

theorem decode_xor (k : FloatKind) (b : Nat) (hb : okW k b) : okW k (Op.negFloat k b) := by
  unfold okW Op.negFloat at *
  refine Nat.xor_lt_two_pow hb ?_
  cases k <;> decide

theorem xor_top_lt (e b : Nat) (hb : b < 2 ^ e) : b ^^^ 2 ^ e = 2 ^ e + b := by
  refine Nat.eq_of_testBit_eq fun j => ?_
  rw [Nat.testBit_xor, Nat.testBit_two_pow]
  rcases Nat.lt_trichotomy j e with h | h | h
  · rw [Nat.testBit_two_pow_add_gt h]
    have : decide (e = j) = false := by simp; omega
    rw [this, Bool.xor_false]
  · subst h
    rw [Nat.testBit_two_pow_add_eq]
    simp
  · have h1 : b.testBit j = false := Nat.testBit_lt_two_pow (Nat.lt_trans hb (Nat.pow_lt_pow_right (by omega) h))
    have h2 : (2 ^ e + b).testBit j = false := Nat.testBit_lt_two_pow (by
      have : 2 ^ e + 2 ^ e ≤ 2 ^ j := by
        have := Nat.pow_le_pow_right (n := 2) (by omega) (show e + 1 ≤ j from h)
        rw [Nat.pow_succ] at this; omega
      omega)
    have h3 : decide (e = j) = false := by simp; omega
    rw [h1, h2, h3]; rfl

theorem xor_top_ge (e b : Nat) (hb : b < 2 ^ e) : (2 ^ e + b) ^^^ 2 ^ e = b := by
  rw [← xor_top_lt e b hb, Nat.xor_assoc, Nat.xor_self, Nat.xor_zero]

theorem word_cases (k : FloatKind) (b : Nat) (hb : okW k b) : ∃ c, c < k.format.signWeight ∧ (b = c ∨ b = k.format.signWeight + c) := by
  have h2 : 2 ^ k.format.width = 2 * k.format.signWeight := by cases k <;> rfl
  unfold okW at hb
  rw [h2] at hb
  rcases Nat.lt_or_ge b k.format.signWeight with h | h
  · exact ⟨b, h, .inl rfl⟩
  · exact ⟨b - k.format.signWeight, by omega, .inr (by omega)⟩

/-- The opposite word. -/
theorem read_neg (k : FloatKind) (b : Nat) (hb : okW k b) : k.decode (Op.negFloat k b) = (k.decode b).opposite := by
  obtain ⟨c, hc, hbc⟩ := word_cases k b hb
  have hs : k.format.signWeight = 2 ^ (k.format.exponentBits + k.format.fractionBits) := rfl
  have hn : Op.negFloat k b = if b = c then k.format.signWeight + c else c := by
    unfold Op.negFloat
    rw [← hs]
    rcases hbc with h | h
    · rw [if_pos h, h, hs, xor_top_lt _ _ (by rw [← hs]; exact hc)]
    · have h0 : 0 < k.format.signWeight := by cases k <;> decide
      rw [if_neg (by omega), h, hs, xor_top_ge _ _ (by rw [← hs]; exact hc)]
  have r0 : ∀ f : Ieee.Format, ∀ c, c < f.signWeight → f.read (f.signWeight + c) = (f.read c).opposite := by
    intro f c hc
    have h1 : (f.signWeight + c) / f.signWeight = 1 := by
      rw [Nat.add_div_left _ (by omega), Nat.div_eq_of_lt hc]
    have h2 : (f.signWeight + c) % f.signWeight = c := by rw [Nat.add_mod_left, Nat.mod_eq_of_lt hc]
    have h3 : c / f.signWeight = 0 := Nat.div_eq_of_lt hc
    have h4 : c % f.signWeight = c := Nat.mod_eq_of_lt hc
    unfold Ieee.Format.read
    simp only [h1, h2, h3, h4]
    split
    · rfl
    · split
      · rfl
      · split <;> rfl
  have r1 : ∀ d : Ieee.Datum, d.opposite.opposite = d := by intro d; cases d <;> simp [Ieee.Datum.opposite]
  unfold FloatKind.decode
  rw [hn]
  rcases hbc with h | h
  · rw [if_pos h, h, r0 _ _ hc]
  · have h0 : 0 < k.format.signWeight := by cases k <;> decide
    rw [if_neg (by omega), h, r0 _ _ hc, r1]

theorem neg_canon (k : FloatKind) (b : Nat) (hb : okW k b) : canon k (Op.negFloat k b) = fneg k (canon k b) := by
  have h : isN k (Op.negFloat k b) = isN k b := by unfold isN; rw [read_neg k b hb, isNaN_opposite]
  unfold fneg
  rw [isN_canon]
  cases hn : isN k b
  · rw [if_neg (by simp), canon_of_not (by rw [h]; exact hn), canon_of_not hn]
  · rw [if_pos rfl, canon_of_nan (by rw [h]; exact hn)]

theorem evUn_sound {op : UnOp} {x v x' : Value} {vc : List Prop} (h : evUn op x = some (v, vc)) (hv : AllP vc) (hx : VR ι x x') : Quiet P (Op.unary op x') ι w v := by
  unfold evUn at h
  split at h
  · cases hx; simp only [Option.some.injEq, Prod.mk.injEq] at h; obtain ⟨rfl, rfl⟩ := h
    exact Quiet.pure (.bool _)
  · cases hx; simp only [Option.some.injEq, Prod.mk.injEq] at h; obtain ⟨rfl, rfl⟩ := h
    simp only [Op.unary, Op.intArith]
    rw [wrap_in hv.1]
    exact Quiet.pure (.int _ _)
  · cases hx with | float h1 h2 =>
    simp only [Option.some.injEq, Prod.mk.injEq] at h; obtain ⟨rfl, rfl⟩ := h
    subst h1
    exact Quiet.pure (.float (neg_canon _ _ h2) (decode_xor _ _ h2))
  · cases hx with | complex h1 h2 h3 h4 =>
    simp only [Option.some.injEq, Prod.mk.injEq] at h; obtain ⟨rfl, rfl⟩ := h
    subst h1; subst h3
    exact Quiet.pure (.complex (neg_canon _ _ h2) (decode_xor _ _ h2) (neg_canon _ _ h4) (decode_xor _ _ h4))
  · cases h

theorem encode_okW (k : FloatKind) (d : Ieee.Datum) : okW k (k.encode d) := k.format.write_lt d

/-- From one kind of float to another. -/
theorem fconv_run (s d : FloatKind) (hne : s ≠ d) (b x : Nat) (hx : canon s b = x) (hok : fconvOk s d x) :
    Quiet P (Conv.floatToFloat s b d) ι w (.float d (canon d (fconv s d x))) := by
  subst hx
  have hfc : fconv s d (canon s b) = match s.decode (canon s b) with | .nan _ _ => cNaN d | dt => d.encode dt := by
    unfold fconv
    cases s <;> cases d <;> first | exact absurd rfl hne | rfl
  have hd := read_canon s b
  unfold Conv.floatToFloat
  rw [if_neg hne]
  cases hb : s.decode b with
  | nan sg t =>
    have hn : isN s b = true := by unfold isN; rw [hb]; rfl
    obtain ⟨r, w', g1, g2, g3, g4⟩ := run_choose_nan (P := P) (a := b) (b := b) (m := false) d (.nanConv d b) w (.inr (.inl rfl))
    refine ⟨.float d r, w', by simp [g1, -run_choose], g2, .float ?_ g3⟩
    rw [canon_of_nan g4, hfc]
    have h2 : (s.decode (canon s b)).isNaN = true := by have := isN_canon s b; rw [hn] at this; exact this
    cases h3 : s.decode (canon s b) with
    | nan _ _ => simp; exact (canon_of_nan (isN_cNaN d)).symm
    | number _ _ _ => rw [h3] at h2; cases h2
    | infinity _ => rw [h3] at h2; cases h2
  | infinity sg =>
    have h2 : s.decode (canon s b) = .infinity sg := by
      rcases hd with h | h
      · rw [h, hb]
      · rw [hb] at h; cases h.2
    rw [hfc, h2]
    exact Quiet.pure (.float rfl (encode_okW d _))
  | number sg m e =>
    have h2 : s.decode (canon s b) = .number sg m e := by
      rcases hd with h | h
      · rw [h, hb]
      · rw [hb] at h; cases h.2
    rw [hfc, h2]
    unfold fconvOk at hok
    rw [h2] at hok
    simp only [hok, Bool.false_eq_true, if_false]
    exact Quiet.pure (.float rfl (encode_okW d _))

theorem cut_zero (neg : Bool) (n : Nat) : Ieee.Toward.even.cut neg n 0 = n := by
  simp [Ieee.Toward.cut, Nat.mod_one]

theorem read_word_fin (f : Ieee.Format) (neg : Bool) (r : Nat) (h : r < f.infRung) : (f.read (f.word neg r)).isInfinity = false := by
  have hi := f.infRung_lt
  have hs : (f.word neg r) % f.signWeight = r := by
    unfold Ieee.Format.word
    split
    · rw [Nat.add_mod_left, Nat.mod_eq_of_lt (by omega)]
    · exact Nat.mod_eq_of_lt (by omega)
  unfold Ieee.Format.read
  simp only [hs]
  split
  · rfl
  · first | rfl | (rw [if_pos h]; rfl)

/-- What numbers a 32-bit word stands for. -/
theorem read32 (x : Nat) {sg : Bool} {m : Nat} {e : Int} (h : FloatKind.f32.decode x = .number sg m e) : m < 2 ^ 24 ∧ -149 ≤ e ∧ e ≤ 104 := by
  have e1 : Ieee.single.signWeight = 2 ^ 31 := by rfl
  have e2 : Ieee.single.infRung = 255 * 2 ^ 23 := by rfl
  have e3 : Ieee.single.binade = 2 ^ 23 := by rfl
  have e4 : Ieee.single.leastPlace = -149 := by rfl
  unfold FloatKind.decode FloatKind.format Ieee.Format.read at h
  simp only [e1, e2, e3, e4] at h
  split at h
  · simp only [Ieee.Datum.number.injEq] at h
    obtain ⟨_, h2, h3⟩ := h
    omega
  · split at h
    · simp only [Ieee.Datum.number.injEq] at h
      obtain ⟨_, h2, h3⟩ := h
      have := Nat.mod_lt (x % 2 ^ 31) (show 0 < 2 ^ 23 by omega)
      omega
    · split at h <;> cases h

/-- No 32-bit number is too great for 64 bits. -/
theorem wide_ok (x : Nat) {sg : Bool} {m : Nat} {e : Int} (h : FloatKind.f32.decode x = .number sg m e) : (FloatKind.f64.decode (FloatKind.f64.encode (.number sg m e))).isInfinity = false := by
  obtain ⟨h1, h2, h3⟩ := read32 x h
  have e2 : Ieee.double.infRung = 2047 * 2 ^ 52 := by rfl
  have e3 : Ieee.double.binade = 2 ^ 52 := by rfl
  have e4 : Ieee.double.leastPlace = -1074 := by rfl
  have e5 : (Ieee.double.fractionBits : Int) = 52 := by rfl
  unfold FloatKind.decode FloatKind.encode
  show (Ieee.double.read (Ieee.double.write (.number sg m e))).isInfinity = false
  simp only [Ieee.Format.write, Ieee.Format.nearest]
  split
  · exact read_word_fin _ _ _ (by rw [e2]; omega)
  · rename_i hm
    refine read_word_fin _ _ _ ?_
    have hlog : m.log2 < 24 := (Nat.log2_lt hm).2 h1
    have hmax : max (e + (m.log2 : Int) - (Ieee.double.fractionBits : Int)) Ieee.double.leastPlace = e + (m.log2 : Int) - 52 := by
      rw [e4, e5]; omega
    rw [hmax]
    have hd : (e + (m.log2 : Int) - 52 - e).toNat = 0 := by omega
    rw [hd, cut_zero, e2, e3, e4]
    have hs : (e - (e + (m.log2 : Int) - 52)).toNat = 52 - m.log2 := by omega
    rw [hs, Nat.shiftLeft_eq]
    have hk : m * 2 ^ (52 - m.log2) < 2 ^ 53 := by
      have a1 : m < 2 ^ (m.log2 + 1) := Nat.lt_log2_self
      calc m * 2 ^ (52 - m.log2) < 2 ^ (m.log2 + 1) * 2 ^ (52 - m.log2) := Nat.mul_lt_mul_of_pos_right a1 (Nat.two_pow_pos _)
        _ = 2 ^ 53 := by rw [← Nat.pow_add]; congr 1; omega
    have hr : (e + (m.log2 : Int) - 52 - -1074).toNat ≤ 1149 := by omega
    rw [show (2 : Nat) ^ 53 = 2 * 2 ^ 52 from by rw [Nat.pow_succ, Nat.mul_comm]] at hk
    generalize (2 : Nat) ^ 52 = B at *
    generalize (e + (m.log2 : Int) - 52 - -1074).toNat = a at *
    generalize m * 2 ^ (52 - m.log2) = c at *
    have hr2 := Nat.mul_le_mul_right B hr
    have h0 : 0 < B := by
      rcases Nat.eq_zero_or_pos B with h' | h'
      · subst h'; omega
      · exact h'
    have : 1149 * B + 2 * B ≤ 2047 * B := by rw [← Nat.add_mul]; exact Nat.mul_le_mul_right B (by omega)
    omega

theorem f2i_canon (s : FloatKind) (b : Nat) (k : IntKind) : f2i s (canon s b) k = f2i s b k := by
  unfold f2i floatToIntVal
  rcases read_canon s b with h | ⟨h1, h2⟩
  · rw [h]
  · have e : ∀ d : Ieee.Datum, d.isNaN = true → d.toInt .zero = none := by
      intro d hd; cases d <;> simp [Ieee.Datum.isNaN] at hd; rfl
    rw [e _ h1, e _ h2]

theorem run_convC {src dst : TypeId} {u : TypeDesc} {k : FloatKind} (hs : P.underlying src = some u) (hd : P.underlying dst = some (.complex k)) (s : FloatKind) (a b : Nat) :
    (convert src dst (.complex s a b)).run P w = (Conv.complexToComplex s a b k).run P w := by
  cases u <;> simp [convert, run_underlying hs, run_underlying hd]

theorem convC_sound {src dst : TypeId} {u : TypeDesc} {k s : FloatKind} {a' b' : Nat} (hs : P.underlying src = some u) (hd : P.underlying dst = some (.complex k)) {x y : Nat}
    (f1 : ∀ w : World, ∃ v' w', (Conv.floatToFloat s a' k).run P w = .ok v' w' ∧ Drawn w w' ∧ VR ι (.float k x) v') (f2 : ∀ w : World, ∃ v' w', (Conv.floatToFloat s b' k).run P w = .ok v' w' ∧ Drawn w w' ∧ VR ι (.float k y) v') :
    Quiet P (convert src dst (.complex s a' b')) ι w (.complex k x y) := by
  have key := run_convC (P := P) (w := w) hs hd s a' b'
  unfold Conv.complexToComplex at key
  generalize Conv.floatToFloat s a' k = m1 at f1 key
  generalize Conv.floatToFloat s b' k = m2 at f2 key
  obtain ⟨v1, w1, a1, a2, a3⟩ := f1 w
  obtain ⟨v2, w2, b1, b2, b3⟩ := f2 w1
  cases a3 with | float p1 p2 =>
  cases b3 with | float q1 q2 =>
  refine ⟨_, w2, ?_, a2.trans b2, .complex p1 p2 q1 q2⟩
  rw [key]
  simp only [Sem.run_bind, a1, b1, Result.andThen]; rfl

theorem evConv_sound {src dst : TypeId} {x v x' : Value} {vc : List Prop} (h : evConv P src dst x = some (v, vc)) (hv : AllP vc) (hx : VR ι x x') : Quiet P (convert src dst x') ι w v := by
  unfold evConv at h
  split at h
  · rename_i u k kk n hs hd
    cases hx
    cases hw : (sameI kk .u64 && sameI k .i64) with
    | true =>
      simp only [hw, cond_true, Option.some.injEq, Prod.mk.injEq] at h; obtain ⟨rfl, rfl⟩ := h
      refine ⟨_, w, ?_, Drawn.refl w, .int _ _⟩
      cases u <;> simp [convert, run_underlying hs, run_underlying hd, Conv.intToInt]
    | false =>
    simp only [hw, cond_false, Option.some.injEq, Prod.mk.injEq] at h; obtain ⟨rfl, rfl⟩ := h
    refine ⟨_, w, ?_, Drawn.refl w, .int _ _⟩
    cases u <;> simp [convert, run_underlying hs, run_underlying hd, Conv.intToInt, wrap_in hv.1]
  · rename_i u k kk n hs hd
    cases hx
    simp only [Option.some.injEq, Prod.mk.injEq] at h; obtain ⟨rfl, rfl⟩ := h
    refine ⟨.float k (k.nearest n), w, ?_, Drawn.refl w, .float rfl (encode_okW k _)⟩
    cases u <;> simp [convert, run_underlying hs, run_underlying hd, Conv.intToFloat]
  · rename_i u k s b hs hd
    cases hx with | float h1 h2 =>
    simp only [Option.some.injEq, Prod.mk.injEq] at h; obtain ⟨rfl, rfl⟩ := h
    subst h1
    have hv1 := hv.1
    rw [f2i_canon] at hv1 ⊢
    obtain ⟨n, hn⟩ := Option.isSome_iff_exists.1 hv1
    rw [hn]
    exact ⟨_, w, run_convert_float_int w src dst s k _ n (by rw [hs]; rfl) hd hn, Drawn.refl w, .int _ _⟩
  · rename_i u k s b hs hd
    cases hx with | float h1 h2 =>
    rename_i b'
    have key : (convert src dst (.float s b')).run P w = (Conv.floatToFloat s b' k).run P w := by
      cases u <;> simp [convert, run_underlying hs, run_underlying hd]
    cases s <;> cases k <;> simp only [Option.some.injEq, Prod.mk.injEq] at h <;> obtain ⟨rfl, rfl⟩ := h
    · exact ⟨.float .f32 b', w, by rw [key]; rfl, Drawn.refl w, .float h1 h2⟩
    · obtain ⟨v', w', g1, g2, g3⟩ := fconv_run (P := P) (ι := ι) (w := w) .f32 .f64 (by simp) b' _ h1 (by
        unfold fconvOk
        split
        · rename_i sg m e hd'
          exact wide_ok _ hd'
        · trivial)
      exact ⟨v', w', by rw [key]; exact g1, g2, g3⟩
    · obtain ⟨v', w', g1, g2, g3⟩ := fconv_run (P := P) (ι := ι) (w := w) .f64 .f32 (by simp) b' _ h1 hv.1
      exact ⟨v', w', by rw [key]; exact g1, g2, g3⟩
    · exact ⟨.float .f64 b', w, by rw [key]; rfl, Drawn.refl w, .float h1 h2⟩
  · rename_i u s hs hd
    cases hx
    simp only [Option.some.injEq, Prod.mk.injEq] at h; obtain ⟨rfl, rfl⟩ := h
    refine ⟨_, w, ?_, Drawn.refl w, .string _⟩
    cases u <;> simp [convert, run_underlying hs, run_underlying hd]
  · rename_i u k s a b hs hd
    cases hx with | complex h1 h2 h3 h4 =>
    rename_i a' b'
    cases s <;> cases k <;> simp only [Option.some.injEq, Prod.mk.injEq] at h <;> obtain ⟨rfl, rfl⟩ := h
    · exact convC_sound hs hd (fun w => ⟨.float .f32 a', w, rfl, Drawn.refl w, .float h1 h2⟩) (fun w => ⟨.float .f32 b', w, rfl, Drawn.refl w, .float h3 h4⟩)
    · have ok : ∀ x : Nat, fconvOk .f32 .f64 x := by
        intro x
        unfold fconvOk
        split
        · rename_i sg m e hd'
          exact wide_ok _ hd'
        · trivial
      exact convC_sound hs hd (fun w => fconv_run (P := P) (ι := ι) (w := w) .f32 .f64 (by simp) a' _ h1 (ok _)) (fun w => fconv_run (P := P) (ι := ι) (w := w) .f32 .f64 (by simp) b' _ h3 (ok _))
    · exact convC_sound hs hd (fun w => fconv_run (P := P) (ι := ι) (w := w) .f64 .f32 (by simp) a' _ h1 hv.1) (fun w => fconv_run (P := P) (ι := ι) (w := w) .f64 .f32 (by simp) b' _ h3 hv.2.1)
    · exact convC_sound hs hd (fun w => ⟨.float .f64 a', w, rfl, Drawn.refl w, .float h1 h2⟩) (fun w => ⟨.float .f64 b', w, rfl, Drawn.refl w, .float h3 h4⟩)
  · cases h

end
end Go.Sim
end
