/- A pure account of the values, floats and memory of a run, and how it stands to the model's (part 2: how values and heaps stand to the model's). Conditions: none. -/
import Derived.Test.YtgjdkhocnnoimaaS1
namespace Go.Sim
open Go

/-- Where a pure block lies: its real block (none: it has no cell), the offset of its first row, the cells of a row, how many rows its real block has room for. -/
structure Place where
  blk : Option Nat
  base : Nat
  sz : Nat
  cap : Nat

mutual
/-- A pure value stands for a real one. A pure address names a pure block, a row and (a pointer) a column. A pure slice's capacity says: 0: none; 2: whatever it is, and the slice is not nil; else: whatever it is. -/
inductive VR (ι : List Place) : Value → Value → Prop
  | bool (b : Bool) : VR ι (.bool b) (.bool b)
  | int (k : IntKind) (n : Int) : VR ι (.int k n) (.int k n)
  | float {k : FloatKind} {x b : Nat} (h : canon k b = x) (hb : okW k b) : VR ι (.float k x) (.float k b)
  | complex {k : FloatKind} {x y a b : Nat} (h : canon k a = x) (ha : okW k a) (g : canon k b = y) (hb : okW k b) : VR ι (.complex k x y) (.complex k a b)
  | string (s : ByteArray) : VR ι (.string s) (.string s)
  | nilFunc : VR ι .nilFunc .nilFunc
  | nilp : VR ι (.pointer none) (.pointer none)
  | ptr {b i j : Nat} {p : Place} {rb : Nat} (h : ι[b]? = some p) (hb : p.blk = some rb) :
      VR ι (.pointer (some ⟨b, i, some j⟩)) (.pointer (some ⟨rb, p.base + i * p.sz + j, none⟩))
  | nils : VR ι (.slice none 0 0) (.slice none 0 0)
  | slice {b i l c c' : Nat} {p : Place} {rb : Nat} (h : ι[b]? = some p) (hb : p.blk = some rb) (hl : l ≤ c') (hc : i + c' ≤ p.cap) (h0 : c = 0 → c' = 0) :
      VR ι (.slice (some ⟨b, i, none⟩) l c) (.slice (some ⟨rb, p.base + i * p.sz, none⟩) l c')
  | slice0 {a : Addr} {c : Nat} {x : Option Addr} (hx : Nat.beq c 2 = true → x ≠ none) : VR ι (.slice (some a) 0 c) (.slice x 0 0)
  | func (fn : Fn) {f f' c c' : List Value} (hf : VRs ι f f') (hc : VRs ι c c') : VR ι (.func fn ⟨f⟩ ⟨c⟩) (.func fn ⟨f'⟩ ⟨c'⟩)
  | agg {cs cs' : List Value} (h : VRs ι cs cs') : VR ι (.agg ⟨cs⟩) (.agg ⟨cs'⟩)
  | tuple {cs cs' : List Value} (h : VRs ι cs cs') : VR ι (.tuple ⟨cs⟩) (.tuple ⟨cs'⟩)
  | hid (a : Option Addr) (l c : Nat) : VR ι (.map none) (.slice a l c)
inductive VRs (ι : List Place) : List Value → List Value → Prop
  | nil : VRs ι [] []
  | cons {v v' : Value} {l l' : List Value} (h : VR ι v v') (hs : VRs ι l l') : VRs ι (v :: l) (v' :: l')
end

/-- What one placing places, the other places so, too. -/
def Sub (ι ι' : List Place) : Prop := ∀ (b : Nat) (p : Place), ι[b]? = some p → ι'[b]? = some p

mutual
theorem VR.mono {ι ι' : List Place} (hi : Sub ι ι') : ∀ {v v' : Value}, VR ι v v' → VR ι' v v'
  | _, _, .bool b => .bool b
  | _, _, .int k n => .int k n
  | _, _, .float h hb => .float h hb
  | _, _, .complex h ha g hb => .complex h ha g hb
  | _, _, .string s => .string s
  | _, _, .nilFunc => .nilFunc
  | _, _, .nilp => .nilp
  | _, _, .ptr h hb => .ptr (hi _ _ h) hb
  | _, _, .nils => .nils
  | _, _, .slice h hb hl hc h0 => .slice (hi _ _ h) hb hl hc h0
  | _, _, .slice0 hx => .slice0 hx
  | _, _, .func fn hf hc => .func fn (VRs.mono hi hf) (VRs.mono hi hc)
  | _, _, .agg h => .agg (VRs.mono hi h)
  | _, _, .tuple h => .tuple (VRs.mono hi h)
  | _, _, .hid a l c => .hid a l c
theorem VRs.mono {ι ι' : List Place} (hi : Sub ι ι') : ∀ {l l' : List Value}, VRs ι l l' → VRs ι' l l'
  | _, _, .nil => .nil
  | _, _, .cons h hs => .cons (VR.mono hi h) (VRs.mono hi hs)
end

theorem VRs.length {ι : List Place} : ∀ {l l' : List Value}, VRs ι l l' → l.length = l'.length
  | _, _, .nil => rfl
  | _, _, .cons _ hs => by simp [VRs.length hs]

theorem VRs.get {ι : List Place} : ∀ {l l' : List Value}, VRs ι l l' → ∀ (j : Nat) (v : Value), l[j]? = some v → ∃ v', l'[j]? = some v' ∧ VR ι v v'
  | _, _, .nil, j, v, h => by simp at h
  | _, _, .cons h hs, 0, v, e => by simp at e; subst e; exact ⟨_, rfl, h⟩
  | _, _, .cons h hs, j + 1, v, e => by simpa using VRs.get hs j v (by simpa using e)

theorem VRs.append {ι : List Place} : ∀ {l l' m m' : List Value}, VRs ι l l' → VRs ι m m' → VRs ι (l ++ m) (l' ++ m')
  | _, _, _, _, .nil, h => h
  | _, _, _, _, .cons h hs, g => .cons h (VRs.append hs g)

/-- A pure list stands for a real one, place by place. -/
theorem VRs.of_get {ι : List Place} : ∀ {l l' : List Value}, l.length = l'.length → (∀ (j : Nat) (v v' : Value), l[j]? = some v → l'[j]? = some v' → VR ι v v') → VRs ι l l'
  | [], [], _, _ => .nil
  | [], _ :: _, h, _ => by simp at h
  | _ :: _, [], h, _ => by simp at h
  | v :: l, v' :: l', h, g => .cons (g 0 v v' rfl rfl) (VRs.of_get (by simpa using h) fun j a b ha hb => g (j + 1) a b (by simpa using ha) (by simpa using hb))

theorem VRs.take {ι : List Place} {l l' : List Value} (h : VRs ι l l') (n : Nat) : VRs ι (l.take n) (l'.take n) := by
  induction n generalizing l l' with
  | zero => simp; exact .nil
  | succ n ih => cases h with
    | nil => simp; exact .nil
    | cons h hs => simp; exact .cons h (ih hs)

theorem VRs.drop {ι : List Place} {l l' : List Value} (h : VRs ι l l') (n : Nat) : VRs ι (l.drop n) (l'.drop n) := by
  induction n generalizing l l' with
  | zero => simpa using h
  | succ n ih => cases h with
    | nil => simp; exact .nil
    | cons h hs => simpa using ih hs

/-! ### Blocks -/

/-- A value of one cell that holds no address. -/
inductive Sc where
  | b (t : Bool)
  | i (k : IntKind) (n : Int)
  | f (k : FloatKind) (x : Nat)
  | s (t : ByteArray)

def Sc.v : Sc → Value
  | .b t => .bool t
  | .i k n => .int k n
  | .f k x => .float k x
  | .s t => .string t

/-- A cell of a row that may hold a slice of float32s of its own ('r'): it is told what lies there. -/
inductive HC where
  | c (s : Sc)
  | r (xs : List Nat)

def HC.v : HC → Value
  | .c s => s.v
  | .r _ => .map none

inductive Cont where
  | fl (k : FloatKind) (xs : List Nat)
  | it (k : IntKind) (xs : List Int)
  | cx (k : FloatKind) (xs : List (Nat × Nat))
  | vs (l : List Value)
  | fn (n sz : Nat) (g : Nat → List Sc)
  | nst (n sz : Nat) (g : Nat → List HC) (o : List (Nat × Nat))

def Cont.rows : Cont → Nat
  | .fl _ xs => xs.length
  | .it _ xs => xs.length
  | .cx _ xs => xs.length
  | .vs _ => 1
  | .fn n _ _ => n
  | .nst n _ _ _ => n

def Cont.sz : Cont → Nat
  | .fl _ _ => 1
  | .it _ _ => 1
  | .cx _ _ => 1
  | .vs l => l.length
  | .fn _ sz _ => sz
  | .nst _ sz _ _ => sz

def Cont.row : Cont → Nat → List Value
  | .fl k xs, r => [.float k (xs.getD r 0)]
  | .it k xs, r => [.int k (xs.getD r 0)]
  | .cx k xs, r => [.complex k (xs.getD r (0, 0)).1 (xs.getD r (0, 0)).2]
  | .vs l, _ => l
  | .fn _ _ g, r => (g r).map Sc.v
  | .nst _ _ g _, r => (g r).map HC.v

/-- Rows of others: which rows are spoken of as blocks of their own. -/
def Cont.vias : Cont → List (Nat × Nat)
  | .nst _ _ _ o => o
  | _ => []

/-- It holds no slice. -/
def Cont.plainC : Cont → Bool
  | .nst _ _ _ _ => false
  | _ => true

theorem vias_plain {c : Cont} (h : c.plainC = true) : c.vias = [] := by cases c <;> first | rfl | cases h

structure Blk where
  own : Bool
  c : Cont

/-- The pure memory: a list of blocks; 'none': a block that is no more spoken of. -/
abbrev Heap := List (Option Blk)

structure BlkOk (ι : List Place) (w : World) (p : Place) (b : Blk) : Prop where
  sz : p.sz = b.c.sz
  len : ∀ r, r < b.c.rows → (b.c.row r).length = b.c.sz
  cells : ∀ r j, r < b.c.rows → j < b.c.sz → ∃ rb cs e f v u, p.blk = some rb ∧ w.heap[rb]? = some (.cells cs e f) ∧
    cs[p.base + r * p.sz + j]? = some v ∧ (b.c.row r)[j]? = some u ∧ VR ι u v ∧ v.oneCell' = true
  own : b.own = true → ∀ rb, p.blk = some rb → p.base = 0 ∧ b.c.rows ≤ p.cap ∧ ∃ cs e, w.heap[rb]? = some (.cells cs e (0, 0)) ∧ cs.size = p.cap * p.sz ∧ ∀ (j : Nat) (v : Value), cs[j]? = some v → v.oneCell' = true
  via : ∀ r k, (r, k) ∈ b.c.vias → ∃ q, ι[k]? = some q ∧ q.blk = p.blk ∧ q.base = p.base + r * p.sz ∧ q.sz = p.sz

/-- The real block of a slice that has room. -/
def Inner (v : Value) (rb : Nat) : Prop := ∃ off l c, v = .slice (some ⟨rb, off, none⟩) l (c + 1)

/-- A hidden slice is there, with its rows. -/
def InnOk (w : World) (own : Bool) (v : Value) (xs : List Nat) : Prop :=
  ∃ q : Place, BlkOk [] w q ⟨own, .fl .f32 xs⟩ ∧ VR [q] (.slice (some ⟨0, 0, none⟩) xs.length 1) v ∧ ∀ rb, q.blk = some rb → Inner v rb

/-- The real cell of a hidden slice. -/
structure HidCell (ι : List Place) (H : Heap) (w : World) (i r j : Nat) (own : Bool) (xs : List Nat) (v : Value) : Prop where
  ex : ∃ p b n sz g o rb cs e f, ι[i]? = some p ∧ H[i]? = some (some b) ∧ b.own = own ∧ b.c = .nst n sz g o ∧ r < n ∧ (g r)[j]? = some (.r xs) ∧
    p.blk = some rb ∧ w.heap[rb]? = some (.cells cs e f) ∧ cs[p.base + r * p.sz + j]? = some v

structure HidOk (ι : List Place) (H : Heap) (w : World) : Prop where
  ok : ∀ i r j own xs v, HidCell ι H w i r j own xs v → InnOk w own v xs
  lt : ∀ i r j own xs v rb, HidCell ι H w i r j own xs v → Inner v rb → rb < w.heap.size
  s1 : ∀ (i : Nat) (p : Place) (b : Blk) (rb : Nat), ι[i]? = some p → H[i]? = some (some b) → b.own = true → p.blk = some rb → ∀ i' r j own xs v, HidCell ι H w i' r j own xs v → ¬ Inner v rb
  s2 : ∀ i r j xs v rb, HidCell ι H w i r j true xs v → Inner v rb → ∀ (i' : Nat) (q : Place) (c : Blk), ι[i']? = some q → H[i']? = some (some c) → q.blk ≠ some rb
  s3 : ∀ i r j xs v rb, HidCell ι H w i r j true xs v → Inner v rb → ∀ i' r' j' own xs' v', HidCell ι H w i' r' j' own xs' v' → Inner v' rb → i' = i ∧ r' = r ∧ j' = j

structure RH (ι : List Place) (H : Heap) (w : World) : Prop where
  len : ι.length = H.length
  blk : ∀ (i : Nat) (p : Place) (b : Blk), ι[i]? = some p → H[i]? = some (some b) → BlkOk ι w p b
  sep : ∀ (i j : Nat) (p q : Place) (b c : Blk) (rb : Nat), ι[i]? = some p → H[i]? = some (some b) → b.own = true →
    ι[j]? = some q → H[j]? = some (some c) → i ≠ j → p.blk = some rb → q.blk ≠ some rb
  lt : ∀ (i : Nat) (p : Place) (b : Blk) (rb : Nat), ι[i]? = some p → H[i]? = some (some b) → p.blk = some rb → rb < w.heap.size
  hid : HidOk ι H w

/-- The real blocks that may be written: own ones ... -/
def Own1 (ι : List Place) (H : Heap) (rb : Nat) : Prop := ∃ (i : Nat) (p : Place) (b : Blk), ι[i]? = some p ∧ H[i]? = some (some b) ∧ b.own = true ∧ p.blk = some rb
/-- ... and those of their hidden slices. -/
def Own2 (ι : List Place) (H : Heap) (w : World) (rb : Nat) : Prop := ∃ i r j xs v, HidCell ι H w i r j true xs v ∧ Inner v rb
def Own (ι : List Place) (H : Heap) (w : World) (rb : Nat) : Prop := Own1 ι H rb ∨ Own2 ι H w rb

/-- Of the real world only blocks in 'O' and new ones have turned. -/
structure Fr (O : Nat → Prop) (w w' : World) : Prop where
  os : w'.os = w.os
  tape : w'.tape = w.tape
  output : w'.output = w.output
  size : w.heap.size ≤ w'.heap.size
  block : ∀ rb, rb < w.heap.size → ¬ O rb → w'.heap[rb]? = w.heap[rb]?

theorem Fr.refl (O : Nat → Prop) (w : World) : Fr O w w := ⟨rfl, rfl, rfl, Nat.le_refl _, fun _ _ _ => rfl⟩

theorem Fr.trans {O O' : Nat → Prop} {a b c : World} (h : Fr O a b) (k : Fr O' b c) (hO : ∀ rb, O' rb → O rb ∨ a.heap.size ≤ rb) : Fr O a c :=
  ⟨k.os.trans h.os, k.tape.trans h.tape, k.output.trans h.output, Nat.le_trans h.size k.size, fun rb hr hn =>
    (k.block rb (Nat.lt_of_lt_of_le hr h.size) fun ho => by rcases hO rb ho with h' | h'; exact hn h'; omega).trans (h.block rb hr hn)⟩

theorem Fr.mono {O O' : Nat → Prop} {a b : World} (h : Fr O a b) (hO : ∀ rb, O rb → O' rb) : Fr O' a b :=
  ⟨h.os, h.tape, h.output, h.size, fun rb hr hn => h.block rb hr fun ho => hn (hO rb ho)⟩

structure Ext (ι : List Place) (H : Heap) (w : World) (ι' : List Place) (H' : Heap) (w' : World) : Prop where
  pre : ∃ l, ι' = ι ++ l
  rh : RH ι' H' w'
  fr : Fr (Own ι H w) w w'
  fresh : ∀ rb, Own ι' H' w' rb → Own ι H w rb ∨ w.heap.size ≤ rb

theorem Ext.refl {ι : List Place} {H : Heap} {w : World} (h : RH ι H w) : Ext ι H w ι H w :=
  ⟨⟨[], by simp⟩, h, Fr.refl _ _, fun _ h => .inl h⟩

theorem Ext.trans {ι ι1 ι2 : List Place} {H H1 H2 : Heap} {w w1 w2 : World} (h : Ext ι H w ι1 H1 w1) (g : Ext ι1 H1 w1 ι2 H2 w2) : Ext ι H w ι2 H2 w2 := by
  obtain ⟨l, hl⟩ := h.pre
  obtain ⟨m, hm⟩ := g.pre
  refine ⟨⟨l ++ m, by rw [hm, hl, List.append_assoc]⟩, g.rh, h.fr.trans g.fr h.fresh, fun rb ho => ?_⟩
  rcases g.fresh rb ho with h' | h'
  · exact h.fresh rb h'
  · exact .inr (Nat.le_trans h.fr.size h')

theorem Ext.sub {ι : List Place} {H : Heap} {w : World} {ι' : List Place} {H' : Heap} {w' : World} (h : Ext ι H w ι' H' w') : Sub ι ι' := by
  obtain ⟨l, hl⟩ := h.pre
  intro b p hb
  rw [hl, List.getElem?_append_left (by
    rcases Nat.lt_or_ge b ι.length with h' | h'
    · exact h'
    · rw [List.getElem?_eq_none h'] at hb; cases hb)]
  exact hb

/-! ### How the real world may turn -/

theorem BlkOk.of_heap {ι ι' : List Place} {w w' : World} {p : Place} {b : Blk} (h : BlkOk ι w p b) (hi : Sub ι ι')
    (hw : ∀ rb, p.blk = some rb → rb < w.heap.size → w'.heap[rb]? = w.heap[rb]?) : BlkOk ι' w' p b := by
  refine ⟨h.sz, h.len, fun r j hr hj => ?_, fun ho rb hrb => ?_, fun r k hk => ?_⟩
  · obtain ⟨rb, cs, e, f, v, u, h1, h2, h3, h4, h5, h6⟩ := h.cells r j hr hj
    have hlt : rb < w.heap.size := by
      rcases Nat.lt_or_ge rb w.heap.size with h' | h'
      · exact h'
      · rw [Array.getElem?_eq_none h'] at h2; cases h2
    exact ⟨rb, cs, e, f, v, u, h1, by rw [hw rb h1 hlt]; exact h2, h3, h4, h5.mono hi, h6⟩
  · obtain ⟨h1, h0, cs, e, h2, h3⟩ := h.own ho rb hrb
    have hlt : rb < w.heap.size := by
      rcases Nat.lt_or_ge rb w.heap.size with h' | h'
      · exact h'
      · rw [Array.getElem?_eq_none h'] at h2; cases h2
    exact ⟨h1, h0, cs, e, by rw [hw rb hrb hlt]; exact h2, h3⟩
  · obtain ⟨q, h1, h2⟩ := h.via r k hk
    exact ⟨q, hi _ _ h1, h2⟩

theorem InnOk.of_heap {w w' : World} {own own' : Bool} {v : Value} {xs : List Nat} (h : InnOk w own v xs) (ho : own' = true → own = true) (hw : ∀ rb, Inner v rb → rb < w.heap.size → w'.heap[rb]? = w.heap[rb]?) : InnOk w' own' v xs := by
  obtain ⟨q, h1, h2, h3⟩ := h
  have h4 := h1.of_heap (ι' := []) (fun _ _ x => x) fun rb hrb hlt => hw rb (h3 rb hrb) hlt
  exact ⟨q, ⟨h4.sz, h4.len, h4.cells, fun ho' => h4.own (ho ho'), h4.via⟩, h2, h3⟩

/-- Hidden slices of one state that all come from another. -/
theorem HidOk.via {ι ι' : List Place} {H H' : Heap} {w w' : World} (h : HidOk ι H w) (κ : Nat → Nat → Prop) (hs : w.heap.size ≤ w'.heap.size)
    (h1 : ∀ i' r j own xs v, HidCell ι' H' w' i' r j own xs v → ∃ i own0, κ i' i ∧ HidCell ι H w i r j own0 xs v ∧ (own = true → own0 = true) ∧ ∀ rb, Inner v rb → rb < w.heap.size → w'.heap[rb]? = w.heap[rb]?)
    (hinj : ∀ i' r j xs v i'' own'' r'' j'' xs'' v'' i, HidCell ι' H' w' i' r j true xs v → HidCell ι' H' w' i'' r'' j'' own'' xs'' v'' → κ i' i → κ i'' i → i'' = i')
    (h4 : ∀ (i' : Nat) (p : Place) (b : Blk) (rb : Nat), ι'[i']? = some p → H'[i']? = some (some b) → p.blk = some rb → w.heap.size ≤ rb ∨ ∃ (i0 : Nat) (p0 : Place) (b0 : Blk), ι[i0]? = some p0 ∧ p0.blk = some rb ∧ H[i0]? = some (some b0) ∧ (b.own = true → b0.own = true)) :
    HidOk ι' H' w' := by
  refine ⟨?_, ?_, ?_, ?_, ?_⟩
  · intro i r j own xs v hc
    obtain ⟨i0, own0, _, g1, g2, g3⟩ := h1 _ _ _ _ _ _ hc
    exact (h.ok _ _ _ _ _ _ g1).of_heap g2 g3
  · intro i r j own xs v rb hc hi
    obtain ⟨i0, own0, _, g1, g2, g3⟩ := h1 _ _ _ _ _ _ hc
    exact Nat.lt_of_lt_of_le (h.lt _ _ _ _ _ _ _ g1 hi) hs
  · intro i p b rb hp hb ho hrb i' r j own xs v hc hi
    obtain ⟨i0, own0, _, g1, g2, g3⟩ := h1 _ _ _ _ _ _ hc
    rcases h4 i p b rb hp hb hrb with h5 | ⟨k, p0, b0, k1, k2, k3, k4⟩
    · have := h.lt _ _ _ _ _ _ _ g1 hi; omega
    · exact h.s1 k p0 b0 rb k1 k3 (k4 ho) k2 _ _ _ _ _ _ g1 hi
  · intro i r j xs v rb hc hi i' q c hq hcq hrb
    obtain ⟨i0, own0, _, g1, g2, g3⟩ := h1 _ _ _ _ _ _ hc
    rw [g2 rfl] at g1
    rcases h4 i' q c rb hq hcq hrb with h5 | ⟨k, p0, b0, k1, k2, k3, k4⟩
    · have := h.lt _ _ _ _ _ _ _ g1 hi; omega
    · exact h.s2 _ _ _ _ _ _ g1 hi k p0 b0 k1 k3 k2
  · intro i r j xs v rb hc hi i' r' j' own xs' v' hc' hi'
    obtain ⟨i0, own0, a1, g1, g2, g3⟩ := h1 _ _ _ _ _ _ hc
    obtain ⟨i1, own1, a2, f1, f2, f3⟩ := h1 _ _ _ _ _ _ hc'
    rw [g2 rfl] at g1
    obtain ⟨rfl, rfl, rfl⟩ := h.s3 _ _ _ _ _ _ g1 hi _ _ _ _ _ _ f1 hi'
    exact ⟨hinj _ _ _ _ _ _ _ _ _ _ _ _ hc hc' a1 a2, rfl, rfl⟩

theorem RH.of_heap {ι : List Place} {H : Heap} {w w' : World} (h : RH ι H w) (hw : ∀ rb : Nat, rb < w.heap.size → w'.heap[rb]? = w.heap[rb]?) (hs : w.heap.size ≤ w'.heap.size) : RH ι H w' := by
  refine ⟨h.len, fun i p b hp hb => (h.blk i p b hp hb).of_heap (fun _ _ x => x) fun rb _ hlt => hw rb hlt, h.sep, fun i p b rb h1 h2 h3 => Nat.lt_of_lt_of_le (h.lt i p b rb h1 h2 h3) hs, ?_⟩
  refine h.hid.via (fun a b => a = b) hs ?_ (fun _ _ _ _ _ _ _ _ _ _ _ _ _ _ a b => by rw [a, b]) fun i p b rb h1 h2 h3 => .inr ⟨i, p, b, h1, h3, h2, id⟩
  rintro i r j own xs v ⟨p, b, n, sz, g, o, rb, cs, e, f, h1, h2, h3, h4, h5, h6, h7, h8, h9⟩
  refine ⟨i, own, rfl, ⟨p, b, n, sz, g, o, rb, cs, e, f, h1, h2, h3, h4, h5, h6, h7, ?_, h9⟩, id, fun rb _ => hw rb⟩
  rw [← hw rb (h.lt i p b rb h1 h2 h7)]; exact h8

/-- Where the heap is as it was, so are the hidden cells. -/
theorem HidCell.of_heap {ι : List Place} {H : Heap} {w w' : World} (hrh : RH ι H w) (hw : ∀ rb : Nat, rb < w.heap.size → w'.heap[rb]? = w.heap[rb]?) {i r j : Nat} {own : Bool} {xs : List Nat} {v : Value} (h : HidCell ι H w' i r j own xs v) : HidCell ι H w i r j own xs v := by
  obtain ⟨p, b, n, sz, g, o, rb, cs, e, f, h1, h2, h3, h4, h5, h6, h7, h8, h9⟩ := h
  exact ⟨p, b, n, sz, g, o, rb, cs, e, f, h1, h2, h3, h4, h5, h6, h7, by rw [← hw rb (hrh.lt i p b rb h1 h2 h7)]; exact h8, h9⟩

theorem Own.of_heap {ι : List Place} {H : Heap} {w w' : World} (hrh : RH ι H w) (hw : ∀ rb : Nat, rb < w.heap.size → w'.heap[rb]? = w.heap[rb]?) {rb : Nat} (h : Own ι H w' rb) : Own ι H w rb := by
  rcases h with h | ⟨i, r, j, xs, v, h1, h2⟩
  · exact .inl h
  · exact .inr ⟨i, r, j, xs, v, h1.of_heap hrh hw, h2⟩

theorem RH.drawn {ι : List Place} {H : Heap} {w w' : World} (h : RH ι H w) (hd : Drawn w w') : RH ι H w' := by
  obtain ⟨n, rfl⟩ := hd
  exact h.of_heap (fun _ _ => rfl) (Nat.le_refl _)

theorem Fr.drawn {O : Nat → Prop} {w w' : World} (hd : Drawn w w') : Fr O w w' := by
  obtain ⟨n, rfl⟩ := hd
  exact ⟨rfl, rfl, rfl, Nat.le_refl _, fun _ _ _ => rfl⟩

theorem Ext.drawn {ι : List Place} {H : Heap} {w w' : World} (h : RH ι H w) (hd : Drawn w w') : Ext ι H w ι H w' := by
  refine ⟨⟨[], by simp⟩, h.drawn hd, Fr.drawn hd, fun _ hh => .inl ?_⟩
  obtain ⟨n, rfl⟩ := hd
  exact Own.of_heap (w' := { w with drawn := w.drawn + n }) h (fun _ _ => rfl) hh

theorem getElem?_snoc_lt {α : Type} {l : List α} {x : α} {i : Nat} {y : α} (h : l[i]? = some y) : (l ++ [x])[i]? = some y := by
  rw [List.getElem?_append_left (by
    rcases Nat.lt_or_ge i l.length with h' | h'
    · exact h'
    · rw [List.getElem?_eq_none h'] at h; cases h)]
  exact h

theorem getElem?_snoc {α : Type} {l : List α} {x : α} {i : Nat} {y : α} (h : (l ++ [x])[i]? = some y) : (l[i]? = some y ∧ i < l.length) ∨ (i = l.length ∧ y = x) := by
  rcases Nat.lt_trichotomy i l.length with h' | h' | h'
  · left; rw [List.getElem?_append_left h'] at h; exact ⟨h, h'⟩
  · right; subst h'; simp at h; exact ⟨rfl, h.symm⟩
  · rw [List.getElem?_eq_none (by simp; omega)] at h; cases h

theorem some_lt {α : Type} {l : List α} {i : Nat} {y : α} (h : l[i]? = some y) : i < l.length := by
  rcases Nat.lt_or_ge i l.length with h' | h'
  · exact h'
  · rw [List.getElem?_eq_none h'] at h; cases h

theorem heap_alloc_lt (w : World) (o : Obj) (rb : Nat) (h : rb < w.heap.size) : (w.alloc o).heap[rb]? = w.heap[rb]? := by
  show (w.heap.push o)[rb]? = _
  rw [Array.getElem?_push, if_neg (by omega)]

theorem heap_alloc_new (w : World) (o : Obj) : (w.alloc o).heap[w.heap.size]? = some o := by
  show (w.heap.push o)[w.heap.size]? = _
  rw [Array.getElem?_push, if_pos rfl]

/-- A new block of the call's own: 'n' rows at its head are spoken of, there is room for 'm'. -/
theorem RH.allocG {ι : List Place} {H : Heap} {w : World} (h : RH ι H w) (c : Cont) (cs : Array Value) (e : TypeId) (m : Nat)
    (hn : c.rows ≤ m) (hm : cs.size = m * c.sz) (hl : ∀ r, r < c.rows → (c.row r).length = c.sz)
    (hone : ∀ (j : Nat) (v : Value), cs[j]? = some v → v.oneCell' = true)
    (hc : ∀ r j, r < c.rows → j < c.sz → ∃ v u, cs[r * c.sz + j]? = some v ∧ (c.row r)[j]? = some u ∧ VR ι u v) (hvia : c.vias = [])
    (hhid : HidOk (ι ++ [⟨some w.heap.size, 0, c.sz, m⟩]) (H ++ [some ⟨true, c⟩]) (w.alloc (.cells cs e))) :
    RH (ι ++ [⟨some w.heap.size, 0, c.sz, m⟩]) (H ++ [some ⟨true, c⟩]) (w.alloc (.cells cs e)) := by
  have hsub : Sub ι (ι ++ [(⟨some w.heap.size, 0, c.sz, m⟩ : Place)]) := fun b p hb => getElem?_snoc_lt hb
  refine ⟨by simp [h.len], ?_, ?_, ?_, hhid⟩
  · intro i p b hp hb
    rcases getElem?_snoc hp with ⟨hp, hi⟩ | ⟨hi, rfl⟩
    · rcases getElem?_snoc hb with ⟨hb, _⟩ | ⟨hi', _⟩
      · exact (h.blk i p b hp hb).of_heap hsub fun rb _ hlt => heap_alloc_lt w _ rb hlt
      · have := h.len; omega
    · rcases getElem?_snoc hb with ⟨hb, hi'⟩ | ⟨_, hb⟩
      · have := h.len; omega
      · simp at hb; subst hb
        refine ⟨rfl, hl, fun r j hr hj => ?_, fun _ rb hrb => ?_, fun r k hk => by rw [hvia] at hk; cases hk⟩
        · obtain ⟨v, u, h1, h2, h3⟩ := hc r j hr hj
          exact ⟨w.heap.size, cs, e, (0, 0), v, u, rfl, heap_alloc_new w _, by simpa using h1, h2, h3.mono hsub, hone _ v h1⟩
        · simp at hrb; subst hrb
          exact ⟨rfl, hn, cs, e, heap_alloc_new w _, hm, hone⟩
  · intro i j p q b c' rb hp hb ho hq hc' hij hrb
    have hlen := h.len
    rcases getElem?_snoc hp with ⟨hp, hi⟩ | ⟨hi, rfl⟩
    · rcases getElem?_snoc hb with ⟨hb, _⟩ | ⟨hi', _⟩
      · rcases getElem?_snoc hq with ⟨hq, hj⟩ | ⟨hj, rfl⟩
        · rcases getElem?_snoc hc' with ⟨hc', _⟩ | ⟨hj', _⟩
          · exact h.sep i j p q b c' rb hp hb ho hq hc' hij hrb
          · omega
        · intro he; simp at he; have := h.lt i p b rb hp hb hrb; omega
      · omega
    · simp at hrb; subst hrb
      rcases getElem?_snoc hq with ⟨hq, hj⟩ | ⟨hj, rfl⟩
      · rcases getElem?_snoc hc' with ⟨hc', _⟩ | ⟨hj', _⟩
        · intro he; have := h.lt j q c' _ hq hc' he; omega
        · omega
      · omega
  · intro i p b rb hp hb hrb
    have hlen := h.len
    rcases getElem?_snoc hp with ⟨hp, hi⟩ | ⟨hi, rfl⟩
    · rcases getElem?_snoc hb with ⟨hb, _⟩ | ⟨hi', _⟩
      · have := h.lt i p b rb hp hb hrb; simp; omega
      · omega
    · simp at hrb; subst hrb; simp

theorem Ext.allocG {ι : List Place} {H : Heap} {w : World} (h : RH ι H w) (c : Cont) (cs : Array Value) (e : TypeId) (m : Nat)
    (hn : c.rows ≤ m) (hm : cs.size = m * c.sz) (hl : ∀ r, r < c.rows → (c.row r).length = c.sz)
    (hone : ∀ (j : Nat) (v : Value), cs[j]? = some v → v.oneCell' = true)
    (hc : ∀ r j, r < c.rows → j < c.sz → ∃ v u, cs[r * c.sz + j]? = some v ∧ (c.row r)[j]? = some u ∧ VR ι u v) (hvia : c.vias = [])
    (hhid : HidOk (ι ++ [⟨some w.heap.size, 0, c.sz, m⟩]) (H ++ [some ⟨true, c⟩]) (w.alloc (.cells cs e)))
    (hfr : ∀ rb, Own2 (ι ++ [⟨some w.heap.size, 0, c.sz, m⟩]) (H ++ [some ⟨true, c⟩]) (w.alloc (.cells cs e)) rb → Own ι H w rb ∨ w.heap.size ≤ rb) :
    Ext ι H w (ι ++ [⟨some w.heap.size, 0, c.sz, m⟩]) (H ++ [some ⟨true, c⟩]) (w.alloc (.cells cs e)) := by
  refine ⟨⟨_, rfl⟩, RH.allocG h c cs e m hn hm hl hone hc hvia hhid, ?_, ?_⟩
  · exact ⟨rfl, rfl, rfl, by simp, fun rb hr _ => heap_alloc_lt w _ rb hr⟩
  · rintro rb (⟨i, p, b, hp, hb, ho, hrb⟩ | ho2)
    rotate_left
    · exact hfr rb ho2
    have hlen := h.len
    rcases getElem?_snoc hp with ⟨hp, hi⟩ | ⟨hi, rfl⟩
    · rcases getElem?_snoc hb with ⟨hb, _⟩ | ⟨hi', _⟩
      · exact .inl (.inl ⟨i, p, b, hp, hb, ho, hrb⟩)
      · omega
    · simp at hrb; subst hrb; exact .inr (Nat.le_refl _)

/-- Hidden slices behind one block more that has none. -/
theorem hid_snoc {ι : List Place} {H : Heap} {w w' : World} {q : Place} {b : Option Blk} (h : RH ι H w) (hb : ∀ c, b = some c → c.c.plainC = true) (hw : ∀ rb : Nat, rb < w.heap.size → w'.heap[rb]? = w.heap[rb]?) (hs : w.heap.size ≤ w'.heap.size) (hq : ∀ rb, q.blk = some rb → w.heap.size ≤ rb) :
    HidOk (ι ++ [q]) (H ++ [b]) w' ∧ ∀ rb, Own2 (ι ++ [q]) (H ++ [b]) w' rb → Own2 ι H w rb := by
  have hlen := h.len
  have key : ∀ i r j own xs v, HidCell (ι ++ [q]) (H ++ [b]) w' i r j own xs v → HidCell ι H w i r j own xs v := by
    rintro i r j own xs v ⟨p, c, n, sz, g, o, rb, cs, e, f, h1, h2, h3, h4, h5, h6, h7, h8, h9⟩
    rcases getElem?_snoc h2 with ⟨g2, hi⟩ | ⟨hi, g2⟩
    · rcases getElem?_snoc h1 with ⟨g1, _⟩ | ⟨hi', _⟩
      · exact ⟨p, c, n, sz, g, o, rb, cs, e, f, g1, g2, h3, h4, h5, h6, h7, by rw [← hw rb (h.lt i p c rb g1 g2 h7)]; exact h8, h9⟩
      · omega
    · have := hb c g2.symm
      rw [h4] at this; cases this
  refine ⟨h.hid.via (fun a b => a = b) hs (fun i r j own xs v hc => ⟨i, own, rfl, key _ _ _ _ _ _ hc, id, fun rb _ => hw rb⟩) (fun _ _ _ _ _ _ _ _ _ _ _ _ _ _ a b => by rw [a, b]) fun i p c rb h1 h2 h3 => ?_, fun rb ⟨i, r, j, xs, v, h1, h2⟩ => ⟨i, r, j, xs, v, key _ _ _ _ _ _ h1, h2⟩⟩
  rcases getElem?_snoc h1 with ⟨g1, hi⟩ | ⟨hi, rfl⟩
  · rcases getElem?_snoc h2 with ⟨g2, _⟩ | ⟨hi', _⟩
    · exact .inr ⟨i, p, c, g1, h3, g2, id⟩
    · omega
  · exact .inl (hq rb h3)

theorem Ext.alloc {ι : List Place} {H : Heap} {w : World} (h : RH ι H w) (c : Cont) (cs : Array Value) (e : TypeId) (m : Nat)
    (hn : c.rows ≤ m) (hm : cs.size = m * c.sz) (hl : ∀ r, r < c.rows → (c.row r).length = c.sz)
    (hone : ∀ (j : Nat) (v : Value), cs[j]? = some v → v.oneCell' = true)
    (hc : ∀ r j, r < c.rows → j < c.sz → ∃ v u, cs[r * c.sz + j]? = some v ∧ (c.row r)[j]? = some u ∧ VR ι u v) (hpl : c.plainC = true) :
    Ext ι H w (ι ++ [⟨some w.heap.size, 0, c.sz, m⟩]) (H ++ [some ⟨true, c⟩]) (w.alloc (.cells cs e)) := by
  obtain ⟨h1, h2⟩ := hid_snoc (q := ⟨some w.heap.size, 0, c.sz, m⟩) (b := some ⟨true, c⟩) (w' := w.alloc (.cells cs e)) h (fun c' hc' => by cases hc'; exact hpl) (fun rb hr => heap_alloc_lt w _ rb hr) (by simp) (fun rb hrb => by simp at hrb; omega)
  exact Ext.allocG h c cs e m hn hm hl hone hc (vias_plain hpl) h1 fun rb hr => .inl (.inr (h2 rb hr))

end Go.Sim
