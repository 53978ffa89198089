/- A pure account of the values, floats and memory of a run, and how it stands to the model's (part 26: slices of rows that hold slices, as arguments). Conditions: none. -/
import Derived.Test.YtgjdkhocnnoimaaS25
import Derived.Test.YtgjdkhocnnoimaaS23
namespace Go.Sim
open Go Go.Deep Go.RowKit Go.ChangeShapes Go.WideShapes

/-! ### What such rows are -/

/-- Slices of float32s. -/
def rowF (xs : List (List Nat)) (i : Nat) : List HC := [.r (List.getD xs i [])]
/-- A text, a slice, four float32s. -/
def dS : ByteArray × List Nat × Nat × Nat × Nat × Nat := (⟨#[]⟩, [], 0, 0, 0, 0)
def rowS (xs : List (ByteArray × List Nat × Nat × Nat × Nat × Nat)) (i : Nat) : List HC :=
  [.c (.s (List.getD xs i dS).1), .r (List.getD xs i dS).2.1, .c (.f .f32 (List.getD xs i dS).2.2.1), .c (.f .f32 (List.getD xs i dS).2.2.2.1), .c (.f .f32 (List.getD xs i dS).2.2.2.2.1), .c (.f .f32 (List.getD xs i dS).2.2.2.2.2)]
/-- A slice, three float32s. -/
def dM : List Nat × Nat × Nat × Nat := ([], 0, 0, 0)
def rowM (xs : List (List Nat × Nat × Nat × Nat)) (i : Nat) : List HC :=
  [.r (List.getD xs i dM).1, .c (.f .f32 (List.getD xs i dM).2.1), .c (.f .f32 (List.getD xs i dM).2.2.1), .c (.f .f32 (List.getD xs i dM).2.2.2)]

/-- A float32's word, told in the one way. -/
def fl32 (y : Nat) : Prop := canon .f32 y = y ∧ okW .f32 y
def okF (xs : List (List Nat)) : Prop := ∀ i, List.length (List.getD xs i []) ≤ 9223372036854775807
def goodS (q : ByteArray × List Nat × Nat × Nat × Nat × Nat) : Prop := (∀ y ∈ q.2.1, fl32 y) ∧ fl32 q.2.2.1 ∧ fl32 q.2.2.2.1 ∧ fl32 q.2.2.2.2.1 ∧ fl32 q.2.2.2.2.2
def okS (xs : List (ByteArray × List Nat × Nat × Nat × Nat × Nat)) : Prop := ∀ i, (List.length (List.getD xs i dS).2.1 ≤ 9223372036854775807 ∧ ByteArray.size (List.getD xs i dS).1 ≤ 9223372036854775807) ∧ goodS (List.getD xs i dS)
def goodM (q : List Nat × Nat × Nat × Nat) : Prop := (∀ y ∈ q.1, fl32 y) ∧ fl32 q.2.1 ∧ fl32 q.2.2.1 ∧ fl32 q.2.2.2
def okM (xs : List (List Nat × Nat × Nat × Nat)) : Prop := ∀ i, List.length (List.getD xs i dM).1 ≤ 9223372036854775807 ∧ goodM (List.getD xs i dM)

theorem getD_repL {α : Type} (n i : Nat) (d : α) : List.getD (List.replicate n d) i d = d := by
  rcases Nat.lt_or_ge i n with h | h
  · simp [h]
  · simp only [List.getD_eq_getElem?_getD, List.getElem?_eq_none (show (List.replicate n d).length ≤ i by simpa using h), Option.getD_none]
theorem rowF_zero (n : Nat) : ∀ i : Nat, [HC.r []] = rowF (List.replicate n []) i := by
  intro i; unfold rowF; rw [getD_repL]
theorem rowS_zero (n : Nat) : ∀ i : Nat, [HC.c (.s ⟨#[]⟩), .r [], .c (.f .f32 0), .c (.f .f32 0), .c (.f .f32 0), .c (.f .f32 0)] = rowS (List.replicate n (⟨#[]⟩, [], 0, 0, 0, 0)) i := by
  intro i
  show _ = rowS (List.replicate n dS) i
  unfold rowS; rw [getD_repL]; rfl
theorem rowM_zero (n : Nat) : ∀ i : Nat, [HC.r [], .c (.f .f32 0), .c (.f .f32 0), .c (.f .f32 0)] = rowM (List.replicate n ([], 0, 0, 0)) i := by
  intro i
  show _ = rowM (List.replicate n dM) i
  unfold rowM; rw [getD_repL]; rfl
theorem getD_noneL {α : Type} {l : List α} {i : Nat} (d : α) (h : l.length ≤ i) : List.getD l i d = d := by
  rw [List.getD_eq_getElem?_getD, List.getElem?_eq_none h]; rfl
theorem fl32_0 : fl32 0 := ⟨by decide, by unfold okW; decide⟩
theorem dS_ok : (List.length dS.2.1 ≤ 9223372036854775807 ∧ ByteArray.size dS.1 ≤ 9223372036854775807) ∧ goodS dS := ⟨⟨Nat.zero_le _, by decide⟩, (fun y hy => by cases hy), fl32_0, fl32_0, fl32_0, fl32_0⟩
theorem dM_ok : List.length dM.1 ≤ 9223372036854775807 ∧ goodM dM := ⟨Nat.zero_le _, (fun y hy => by cases hy), fl32_0, fl32_0, fl32_0⟩
theorem dF_ok : List.length ([] : List Nat) ≤ 9223372036854775807 := Nat.zero_le _
theorem okF_nil : okF [] := fun i => by rw [show List.getD ([] : List (List Nat)) i [] = [] from rfl]; exact dF_ok
theorem okF_snoc {xs : List (List Nat)} {y : List Nat} (h : okF xs) (hy : List.length y ≤ 9223372036854775807) : okF (xs ++ [y]) := by
  intro i
  rcases Nat.lt_trichotomy i xs.length with h' | h' | h'
  · have := h i
    simpa [List.getD_eq_getElem?_getD, List.getElem?_append_left h'] using this
  · subst h'; simpa using hy
  · simp [List.getD_eq_getElem?_getD, List.getElem?_eq_none (show (xs ++ [y]).length ≤ i by simp; omega)]

theorem rowF_set {xs : List (List Nat)} {r : Nat} {y : List Nat} (h : r < xs.length) : ∀ i : Nat, (bif Nat.beq i r then [HC.r y] else rowF xs i) = rowF (xs.set r y) i := by
  intro i
  cases hb : Nat.beq i r with
  | true => have := Nat.eq_of_beq_eq_true hb; subst this; simp [rowF, h]
  | false =>
    have hne : i ≠ r := fun e => by subst e; simp at hb
    simp only [cond_false, rowF, List.getD_eq_getElem?_getD, List.getElem?_set, if_neg (Ne.symm hne)]
theorem rowS_set {xs : List (ByteArray × List Nat × Nat × Nat × Nat × Nat)} {r : Nat} {s : ByteArray} {y : List Nat} {a b c d : Nat} (h : r < xs.length) :
    ∀ i : Nat, (bif Nat.beq i r then [HC.c (.s s), .r y, .c (.f .f32 a), .c (.f .f32 b), .c (.f .f32 c), .c (.f .f32 d)] else rowS xs i) = rowS (xs.set r (s, y, a, b, c, d)) i := by
  intro i
  cases hb : Nat.beq i r with
  | true => have := Nat.eq_of_beq_eq_true hb; subst this; simp [rowS, h]
  | false =>
    have hne : i ≠ r := fun e => by subst e; simp at hb
    simp only [cond_false, rowS, List.getD_eq_getElem?_getD, List.getElem?_set, if_neg (Ne.symm hne)]
theorem rowM_set {xs : List (List Nat × Nat × Nat × Nat)} {r : Nat} {y : List Nat} {a b c : Nat} (h : r < xs.length) :
    ∀ i : Nat, (bif Nat.beq i r then [HC.r y, .c (.f .f32 a), .c (.f .f32 b), .c (.f .f32 c)] else rowM xs i) = rowM (xs.set r (y, a, b, c)) i := by
  intro i
  cases hb : Nat.beq i r with
  | true => have := Nat.eq_of_beq_eq_true hb; subst this; simp [rowM, h]
  | false =>
    have hne : i ≠ r := fun e => by subst e; simp at hb
    simp only [cond_false, rowM, List.getD_eq_getElem?_getD, List.getElem?_set, if_neg (Ne.symm hne)]

/-! ### As arguments -/

def HCOk (W : World) (h : HC) (v : Value) : Prop :=
  match h with
  | .c s => (∀ ι, VR ι s.v v) ∧ v.oneCell' = true
  | .r xs => InnOk W false v xs ∧ (∀ rb, Inner v rb → rb < W.heap.size) ∧ ∃ a l c, v = .slice a l c

theorem hcOk_vr {W : World} {h : HC} {v : Value} (k : HCOk W h v) : (∀ ι, VR ι h.v v) ∧ v.oneCell' = true := by
  cases h with
  | c s => exact k
  | r xs => obtain ⟨_, _, a, l, c, rfl⟩ := k; exact ⟨fun ι => .hid a l c, rfl⟩

theorem hcOk_arg {W : World} {v : Value} {xs : List Nat} {p : Place} (h : Arg W 0 v (.slice (some ⟨0, 0, none⟩) xs.length 1) [p] [some ⟨false, .fl .f32 xs⟩]) : HCOk W (.r xs) v := by
  have self : ∀ (i : Nat) (q : Place), ([p] : List Place)[i]? = some q → ([p] : List Place)[0 + i]? = some q := fun i q hq => by rw [Nat.zero_add]; exact hq
  have hbk := h.blk [p] 0 p _ self rfl rfl
  have hv := h.val [p] self
  have hlt := h.lt 0 p
  generalize hl : xs.length = l at hv
  cases hv with
  | slice hp hb hle hc h0 =>
    rename_i c' p' rb
    simp at hp; subst hp
    by_cases hc0 : c' = 0
    · subst hc0
      have : l = 0 := by omega
      subst this
      have hx := List.eq_nil_of_length_eq_zero hl
      subst hx
      exact ⟨⟨⟨none, 0, 1, 0⟩, ⟨rfl, fun r hr => by simp [Cont.rows] at hr, fun r j hr => by simp [Cont.rows] at hr, fun ho => (by cases ho), fun r k hk => (by cases hk)⟩, .slice0 (fun h => absurd h (by decide)), fun rb hrb => by cases hrb⟩,
        fun rb' ⟨off, l', c2, hh⟩ => (by cases hh), _, _, _, rfl⟩
    · obtain ⟨d, rfl⟩ : ∃ d, c' = d + 1 := ⟨c' - 1, by omega⟩
      refine ⟨⟨p, blkOk_floats hbk, ?_, fun rb' hrb' => ?_⟩, ?_, _, _, _, rfl⟩
      · have := VR.slice (ι := [p]) (b := 0) (i := 0) (l := l) (c := 1) (c' := d + 1) rfl hb hle hc (by intro h; cases h)
        rw [hl]; exact this
      · rw [hb] at hrb'; cases hrb'
        exact ⟨_, _, _, rfl⟩
      · rintro rb' ⟨off, l', c2, hh⟩
        simp only [Value.slice.injEq, Option.some.injEq, Addr.mk.injEq] at hh
        rw [← hh.1.1]
        exact hlt rb rfl hb
  | slice0 hx =>
    have hx := List.eq_nil_of_length_eq_zero hl
    subst hx
    exact ⟨⟨⟨none, 0, 1, 0⟩, ⟨rfl, fun r hr => by simp [Cont.rows] at hr, fun r j hr => by simp [Cont.rows] at hr, fun ho => (by cases ho), fun r k hk => (by cases hk)⟩, .slice0 (fun h => absurd h (by decide)), fun rb hrb => by cases hrb⟩,
      fun rb' ⟨off, l', c2, hh⟩ => (by cases hh), _, _, _, rfl⟩

section
variable {Hh : Type} {enc : TypeId × Value → Hh} {P : Program} {W : World} {base : Nat} {held : Bool} {fuel : Nat} {t : TypeId} {x : DataW Hh × List MemPlace}

/-- A slice of elements of 's' cells that may hold slices. -/
theorem arg_rowsN {s : Nat} (hs0 : 0 < s) {a : Addr} {len cap k : Nat} {g : Nat → List HC} {V : Nat → Nat → Value} (hl : len ≤ cap) (hV : ∀ i j, i < cap → j < s → W.cell? (a.add (i * s + j)) = some (V i j))
    (hlen : ∀ i, i < len → (g i).length = s) (hrow : ∀ i j, i < len → j < s → ∃ h, (g i)[j]? = some h ∧ HCOk W h (V i j)) :
    ∃ p, Arg W k (.slice (some a) len cap) (.slice (some ⟨k, 0, none⟩) len 1) [p] [some ⟨false, .nst len s g []⟩] := by
  have single : ∀ {p p' : Place} {i : Nat}, ([p] : List Place)[i]? = some p' → i = 0 ∧ p' = p := fun {p p' i} h => by
    cases i with
    | zero => simp at h; exact ⟨rfl, h.symm⟩
    | succ i => simp at h
  by_cases hcap : cap = 0
  · subst hcap
    have hl0 : len = 0 := by omega
    subst hl0
    refine ⟨⟨none, 0, s, 0⟩, rfl, fun i b hb => ?_, fun ι i p b _ hp hb => ?_, fun i p rb hp hrb => ?_, fun ι _ => .slice0 (fun h => absurd h (by decide)), fun i r j own xs v hc => ?_⟩
    · cases i with
      | zero => simp at hb; subst hb; rfl
      | succ i => simp at hb
    · obtain ⟨rfl, rfl⟩ := single hp
      simp at hb; subst hb
      refine ⟨rfl, fun r hr => ?_, fun r j hr => ?_, fun ho => (by cases ho), fun r k hk => by cases hk⟩
      · simp [Cont.rows] at hr
      · simp [Cont.rows] at hr
    · obtain ⟨rfl, rfl⟩ := single hp; cases hrb
    · obtain ⟨p, b, n, sz, g', o, rb, cs, e, f, h1, h2, h3, h4, h5, h6, h7, _⟩ := hc
      obtain ⟨rfl, rfl⟩ := single h1
      cases h7
  · have h0 := cell_at (hV 0 0 (by omega) hs0)
    obtain ⟨b, off, spot⟩ := a
    simp only [Addr.add] at h0 hV
    obtain ⟨h00, hlt, _⟩ := h0
    have hspot : spot = none := by simpa using h00
    subst hspot
    have e1 : ∀ m : Nat, (if m = 0 then ({ block := b, off := off } : Addr) else { block := b, off := off + m }) = { block := b, off := off + m } := by
      intro m
      split
      · rename_i h; rw [h]; rfl
      · rfl
    refine ⟨⟨some b, off, s, cap⟩, rfl, fun i bb hb => ?_, fun ι i p bb _ hp hb => ?_, fun i p rb hp hrb => ?_, fun ι hι => ?_, fun i r j own xs v hc => ?_⟩
    · cases i with
      | zero => simp at hb; subst hb; rfl
      | succ i => simp at hb
    · obtain ⟨rfl, rfl⟩ := single hp
      simp at hb; subst hb
      refine ⟨rfl, fun r hr => ?_, fun r j hr hj => ?_, fun ho => (by cases ho), fun r k hk => by cases hk⟩
      · simp only [Cont.rows] at hr
        simp [Cont.row, Cont.sz, hlen r hr]
      · simp only [Cont.rows] at hr
        simp only [Cont.sz] at hj
        obtain ⟨h, h1, h2⟩ := hrow r j hr hj
        obtain ⟨h3, h4⟩ := hcOk_vr h2
        obtain ⟨_, _, cs, e, f, g1, g2⟩ := cell_at (hV r j (by omega) hj)
        rw [e1] at g1 g2
        exact ⟨b, cs, e, f, V r j, h.v, rfl, g1, by simpa [Nat.add_assoc] using g2, by simp [Cont.row, h1], h3 ι, h4⟩
    · obtain ⟨rfl, rfl⟩ := single hp
      simp at hrb; subst hrb; simpa using hlt
    · have := hι 0 _ rfl
      have hs := VR.slice (ι := ι) (b := k) (i := 0) (l := len) (c := 1) (c' := cap) this rfl hl (by simp) (by intro h; cases h)
      simpa using hs
    · obtain ⟨p, bb, n, sz, g', o, rb, cs, e, f, h1, h2, h3, h4, h5, h6, h7, h8, h9⟩ := hc
      obtain ⟨rfl, rfl⟩ := single h1
      simp at h2; subst h2
      simp only [Cont.nst.injEq] at h4
      obtain ⟨rfl, rfl, rfl, rfl⟩ := h4
      simp only [Option.some.injEq] at h7; subst h7
      have hj : j < s := by have := some_lt h6; rw [hlen r h5] at this; exact this
      obtain ⟨h, k1, k2⟩ := hrow r j h5 hj
      rw [h6] at k1; cases k1
      obtain ⟨_, _, cs', e', f', g1, g2⟩ := cell_at (hV r j (by omega) hj)
      rw [e1] at g1 g2
      rw [h8] at g1; cases g1
      have : v = V r j := by
        have : cs[off + (r * s + j)]? = some v := by rw [← Nat.add_assoc]; exact h9
        rw [g2] at this; simpa using this.symm
      subst this
      exact ⟨k2.1, k2.2.1⟩

theorem col_vec {e : TypeId} (ht : P.underlying t = some (.slice e)) (he : P.underlying e = some (.float .f32)) (hc : P.cellsOf e = 1) {v : Value}
    (h : DataW.trod enc P W base (fun _ => true) held fuel t [v] = some x) : ∃ xs : List Nat, (xs.length ≤ 9223372036854775807 ∧ ∀ y ∈ xs, fl32 y) ∧ HCOk W (.r xs) v := by
  obtain ⟨xs, p, h1, h0, h2⟩ := cell_floats (n := 0) ht he hc h
  exact ⟨xs, ⟨h1, h0⟩, hcOk_arg h2⟩
theorem col_f32 (ht : P.underlying t = some (.float .f32)) {v : Value} (h : DataW.trod enc P W base (fun _ => true) held fuel t [v] = some x) : ∃ b : Nat, fl32 b ∧ HCOk W (.c (.f .f32 b)) v := by
  obtain ⟨b, rfl, h1, _⟩ := cell_floatw (n := 0) ht h
  exact ⟨canon .f32 b, ⟨canon_canon _ _, okW_canon h1⟩, fun ι => .float rfl h1, rfl⟩
theorem col_str (ht : P.underlying t = some .string) {v : Value} (h : DataW.trod enc P W base (fun _ => true) held fuel t [v] = some x) : ∃ s : ByteArray, ByteArray.size s ≤ 9223372036854775807 ∧ HCOk W (.c (.s s)) v := by
  obtain ⟨s, rfl, h1, _⟩ := cell_string (n := 0) ht h
  exact ⟨s, h1, fun ι => .string _, rfl⟩

/-- A slice of slices of float32s that came in. -/
theorem cell_vecs {e e1 : TypeId} {n : Nat} (ht : P.underlying t = some (.slice e)) (he : P.underlying e = some (.slice e1)) (he1 : P.underlying e1 = some (.float .f32)) (ce : P.cellsOf e = 1) (ce1 : P.cellsOf e1 = 1) {v : Value}
    (h : DataW.trod enc P W base (fun _ => true) held fuel t [v] = some x) :
    ∃ (xs : List (List Nat)) (p : Place), xs.length ≤ 9223372036854775807 ∧ okF xs ∧ Arg W n v (.slice (some ⟨n, 0, none⟩) xs.length 1) [p] [some ⟨false, .nst xs.length 1 (rowF xs) []⟩] := by
  rcases open_slice ht h with ⟨hcs, _⟩ | ⟨a, len, cap, m, n', D, Pl, hcs, _, hl, hm, hmm, _, hx⟩
  · simp only [List.cons.injEq, and_true] at hcs; subst hcs
    exact ⟨[], _, by simp, fun i => by rw [getD_noneL [] (by simp)]; exact dF_ok, nil_slice (c := .nst 0 1 (rowF []) []) rfl⟩
  · simp only [List.cons.injEq, and_true] at hcs; subst hcs
    simp only [if_true] at hmm
    subst hmm
    have hb : ∀ i, ∃ q : Value × List Nat, i < m → W.cell? (a.add (i * 1)) = some q.1 ∧ q.2.length ≤ 9223372036854775807 ∧ HCOk W (.r q.2) q.1 := fun i => by
      by_cases hi : i < m
      · obtain ⟨cs', h1, h2⟩ := hx i hi
        rw [ce] at h1
        obtain ⟨_, hlen, hcell⟩ := World.cells?_some h1
        match cs', hlen with
        | [v0], _ =>
          have e0 := hcell 0 (by omega)
          rw [add_add'] at e0
          obtain ⟨xs, k1, k2⟩ := col_vec he he1 ce1 h2
          exact ⟨(v0, xs), fun _ => ⟨by simpa using e0, k1.1, k2⟩⟩
      · exact ⟨(.nilFunc, []), fun h => absurd h hi⟩
    let B : Nat → Value × List Nat := fun i => Classical.choose (hb i)
    have hB := fun i (hi : i < m) => Classical.choose_spec (hb i) hi
    have hget : ∀ i, i < len → List.getD ((List.range len).map fun i => (B i).2) i [] = (B i).2 := fun i hi => by simp [hi]
    obtain ⟨p, hp⟩ := arg_rowsN (W := W) (s := 1) (by omega) (a := a) (len := len) (cap := m) (k := n) (g := rowF ((List.range len).map fun i => (B i).2)) (V := fun i _ => (B i).1) hl
      (fun i j hi hj => by
        obtain rfl : j = 0 := by omega
        exact (hB i hi).1)
      (fun i hi => by simp [rowF]) (fun i j hi hj => by
        obtain rfl : j = 0 := by omega
        exact ⟨.r (B i).2, by simp only [rowF, hget i hi]; rfl, (hB i (by omega)).2.2⟩)
    refine ⟨(List.range len).map fun i => (B i).2, p, ?_, ?_, by simpa using hp⟩
    · simp only [List.length_map, List.length_range]
      exact Nat.le_trans hl hm
    · intro i
      rcases Nat.lt_or_ge i len with hi | hi
      · rw [hget i hi]; exact (hB i (by omega)).2.1
      · rw [getD_noneL [] (by simpa using hi)]; exact dF_ok

/-- A slice of sounds that came in. -/
theorem cell_snds {e e1 : TypeId} {f0 f1 f2 f3 f4 f5 : Field} {n : Nat} (ht : P.underlying t = some (.slice e)) (he : P.underlying e = some (.struct #[f0, f1, f2, f3, f4, f5])) (ce : P.cellsOf e = 6)
    (o : f0.offset = 0 ∧ f1.offset = 1 ∧ f2.offset = 2 ∧ f3.offset = 3 ∧ f4.offset = 4 ∧ f5.offset = 5) (c0 : P.cellsOf f0.type = 1) (c1 : P.cellsOf f1.type = 1) (c2 : P.cellsOf f2.type = 1) (c3 : P.cellsOf f3.type = 1) (c4 : P.cellsOf f4.type = 1) (c5 : P.cellsOf f5.type = 1)
    (u0 : P.underlying f0.type = some .string) (u1 : P.underlying f1.type = some (.slice e1)) (ue : P.underlying e1 = some (.float .f32)) (cue : P.cellsOf e1 = 1)
    (u2 : P.underlying f2.type = some (.float .f32)) (u3 : P.underlying f3.type = some (.float .f32)) (u4 : P.underlying f4.type = some (.float .f32)) (u5 : P.underlying f5.type = some (.float .f32)) {v : Value}
    (h : DataW.trod enc P W base (fun _ => true) held fuel t [v] = some x) :
    ∃ (xs : List (ByteArray × List Nat × Nat × Nat × Nat × Nat)) (p : Place), xs.length ≤ 9223372036854775807 ∧ okS xs ∧ Arg W n v (.slice (some ⟨n, 0, none⟩) xs.length 1) [p] [some ⟨false, .nst xs.length 6 (rowS xs) []⟩] := by
  obtain ⟨o0, o1, o2, o3, o4, o5⟩ := o
  rcases open_slice ht h with ⟨hcs, _⟩ | ⟨a, len, cap, m, n', D, Pl, hcs, _, hl, hm, hmm, _, hx⟩
  · simp only [List.cons.injEq, and_true] at hcs; subst hcs
    exact ⟨[], _, by simp, fun i => by rw [getD_noneL dS (by simp)]; exact dS_ok, nil_slice (c := .nst 0 6 (rowS []) []) rfl⟩
  · simp only [List.cons.injEq, and_true] at hcs; subst hcs
    simp only [if_true] at hmm
    subst hmm
    have hb : ∀ i, ∃ q : (Nat → Value) × (ByteArray × List Nat × Nat × Nat × Nat × Nat), i < m → (∀ j, j < 6 → W.cell? (a.add (i * 6 + j)) = some (q.1 j)) ∧ ((q.2.2.1.length ≤ 9223372036854775807 ∧ ByteArray.size q.2.1 ≤ 9223372036854775807) ∧ goodS q.2) ∧
        HCOk W (.c (.s q.2.1)) (q.1 0) ∧ HCOk W (.r q.2.2.1) (q.1 1) ∧ HCOk W (.c (.f .f32 q.2.2.2.1)) (q.1 2) ∧ HCOk W (.c (.f .f32 q.2.2.2.2.1)) (q.1 3) ∧ HCOk W (.c (.f .f32 q.2.2.2.2.2.1)) (q.1 4) ∧ HCOk W (.c (.f .f32 q.2.2.2.2.2.2)) (q.1 5) := fun i => by
      by_cases hi : i < m
      · obtain ⟨cs', h1, h2⟩ := hx i hi
        rw [ce] at h1
        obtain ⟨_, hlen, hcell⟩ := World.cells?_some h1
        obtain ⟨xs, k, hk, hxy, _, hxl, hf⟩ := DataW.trod_struct he h2
        match xs, hxl, cs', hlen with
        | [y0, y1, y2, y3, y4, y5], _, [v0, v1, v2, v3, v4, v5], _ =>
          have g0 := hf 0 f0 rfl
          have g1 := hf 1 f1 rfl
          have g2 := hf 2 f2 rfl
          have g3 := hf 3 f3 rfl
          have g4 := hf 4 f4 rfl
          have g5 := hf 5 f5 rfl
          simp [o0, o1, o2, o3, o4, o5, c0, c1, c2, c3, c4, c5] at g0 g1 g2 g3 g4 g5
          obtain ⟨s, s1, s2⟩ := col_str u0 g0
          obtain ⟨ys, ys1, ys2⟩ := col_vec u1 ue cue g1
          obtain ⟨b2, w2, k2⟩ := col_f32 u2 g2
          obtain ⟨b3, w3, k3⟩ := col_f32 u3 g3
          obtain ⟨b4, w4, k4⟩ := col_f32 u4 g4
          obtain ⟨b5, w5, k5⟩ := col_f32 u5 g5
          refine ⟨(fun j => ([v0, v1, v2, v3, v4, v5].getD j .nilFunc), (s, ys, b2, b3, b4, b5)), fun _ => ⟨fun j hj => ?_, ⟨⟨ys1.1, s1⟩, ys1.2, w2, w3, w4, w5⟩, s2, ys2, k2, k3, k4, k5⟩⟩
          have e0 := hcell j hj
          rw [add_add'] at e0
          rw [e0]
          simp [List.getD, hj]
      · exact ⟨(fun _ => .nilFunc, dS), fun h => absurd h hi⟩
    let B : Nat → (Nat → Value) × (ByteArray × List Nat × Nat × Nat × Nat × Nat) := fun i => Classical.choose (hb i)
    have hB := fun i (hi : i < m) => Classical.choose_spec (hb i) hi
    have hget : ∀ i, i < len → List.getD ((List.range len).map fun i => (B i).2) i dS = (B i).2 := fun i hi => by simp [hi]
    obtain ⟨p, hp⟩ := arg_rowsN (W := W) (s := 6) (by omega) (a := a) (len := len) (cap := m) (k := n) (g := rowS ((List.range len).map fun i => (B i).2)) (V := fun i j => (B i).1 j) hl
      (fun i j hi hj => (hB i hi).1 j hj)
      (fun i hi => by simp [rowS]) (fun i j hi hj => by
        obtain ⟨_, _, q0, q1, q2, q3, q4, q5⟩ := hB i (by omega)
        simp only [rowS, hget i hi]
        match j, hj with
        | 0, _ => exact ⟨_, rfl, q0⟩
        | 1, _ => exact ⟨_, rfl, q1⟩
        | 2, _ => exact ⟨_, rfl, q2⟩
        | 3, _ => exact ⟨_, rfl, q3⟩
        | 4, _ => exact ⟨_, rfl, q4⟩
        | 5, _ => exact ⟨_, rfl, q5⟩)
    refine ⟨(List.range len).map fun i => (B i).2, p, ?_, ?_, by simpa using hp⟩
    · simp only [List.length_map, List.length_range]
      exact Nat.le_trans hl hm
    · intro i
      rcases Nat.lt_or_ge i len with hi | hi
      · rw [hget i hi]; exact (hB i (by omega)).2.1
      · rw [getD_noneL dS (by simpa using hi)]; exact dS_ok

/-- A slice of frames that came in. -/
theorem cell_mnts {e e1 : TypeId} {f0 f1 f2 f3 : Field} {n : Nat} (ht : P.underlying t = some (.slice e)) (he : P.underlying e = some (.struct #[f0, f1, f2, f3])) (ce : P.cellsOf e = 4)
    (o : f0.offset = 0 ∧ f1.offset = 1 ∧ f2.offset = 2 ∧ f3.offset = 3) (c0 : P.cellsOf f0.type = 1) (c1 : P.cellsOf f1.type = 1) (c2 : P.cellsOf f2.type = 1) (c3 : P.cellsOf f3.type = 1)
    (u0 : P.underlying f0.type = some (.slice e1)) (ue : P.underlying e1 = some (.float .f32)) (cue : P.cellsOf e1 = 1)
    (u1 : P.underlying f1.type = some (.float .f32)) (u2 : P.underlying f2.type = some (.float .f32)) (u3 : P.underlying f3.type = some (.float .f32)) {v : Value}
    (h : DataW.trod enc P W base (fun _ => true) held fuel t [v] = some x) :
    ∃ (xs : List (List Nat × Nat × Nat × Nat)) (p : Place), xs.length ≤ 9223372036854775807 ∧ okM xs ∧ Arg W n v (.slice (some ⟨n, 0, none⟩) xs.length 1) [p] [some ⟨false, .nst xs.length 4 (rowM xs) []⟩] := by
  obtain ⟨o0, o1, o2, o3⟩ := o
  rcases open_slice ht h with ⟨hcs, _⟩ | ⟨a, len, cap, m, n', D, Pl, hcs, _, hl, hm, hmm, _, hx⟩
  · simp only [List.cons.injEq, and_true] at hcs; subst hcs
    exact ⟨[], _, by simp, fun i => by rw [getD_noneL dM (by simp)]; exact dM_ok, nil_slice (c := .nst 0 4 (rowM []) []) rfl⟩
  · simp only [List.cons.injEq, and_true] at hcs; subst hcs
    simp only [if_true] at hmm
    subst hmm
    have hb : ∀ i, ∃ q : (Nat → Value) × (List Nat × Nat × Nat × Nat), i < m → (∀ j, j < 4 → W.cell? (a.add (i * 4 + j)) = some (q.1 j)) ∧ (q.2.1.length ≤ 9223372036854775807 ∧ goodM q.2) ∧
        HCOk W (.r q.2.1) (q.1 0) ∧ HCOk W (.c (.f .f32 q.2.2.1)) (q.1 1) ∧ HCOk W (.c (.f .f32 q.2.2.2.1)) (q.1 2) ∧ HCOk W (.c (.f .f32 q.2.2.2.2)) (q.1 3) := fun i => by
      by_cases hi : i < m
      · obtain ⟨cs', h1, h2⟩ := hx i hi
        rw [ce] at h1
        obtain ⟨_, hlen, hcell⟩ := World.cells?_some h1
        obtain ⟨xs, k, hk, hxy, _, hxl, hf⟩ := DataW.trod_struct he h2
        match xs, hxl, cs', hlen with
        | [y0, y1, y2, y3], _, [v0, v1, v2, v3], _ =>
          have g0 := hf 0 f0 rfl
          have g1 := hf 1 f1 rfl
          have g2 := hf 2 f2 rfl
          have g3 := hf 3 f3 rfl
          simp [o0, o1, o2, o3, c0, c1, c2, c3] at g0 g1 g2 g3
          obtain ⟨ys, ys1, ys2⟩ := col_vec u0 ue cue g0
          obtain ⟨b1, w1, k1⟩ := col_f32 u1 g1
          obtain ⟨b2, w2, k2⟩ := col_f32 u2 g2
          obtain ⟨b3, w3, k3⟩ := col_f32 u3 g3
          refine ⟨(fun j => ([v0, v1, v2, v3].getD j .nilFunc), (ys, b1, b2, b3)), fun _ => ⟨fun j hj => ?_, ⟨ys1.1, ys1.2, w1, w2, w3⟩, ys2, k1, k2, k3⟩⟩
          have e0 := hcell j hj
          rw [add_add'] at e0
          rw [e0]
          simp [List.getD, hj]
      · exact ⟨(fun _ => .nilFunc, dM), fun h => absurd h hi⟩
    let B : Nat → (Nat → Value) × (List Nat × Nat × Nat × Nat) := fun i => Classical.choose (hb i)
    have hB := fun i (hi : i < m) => Classical.choose_spec (hb i) hi
    have hget : ∀ i, i < len → List.getD ((List.range len).map fun i => (B i).2) i dM = (B i).2 := fun i hi => by simp [hi]
    obtain ⟨p, hp⟩ := arg_rowsN (W := W) (s := 4) (by omega) (a := a) (len := len) (cap := m) (k := n) (g := rowM ((List.range len).map fun i => (B i).2)) (V := fun i j => (B i).1 j) hl
      (fun i j hi hj => (hB i hi).1 j hj)
      (fun i hi => by simp [rowM]) (fun i j hi hj => by
        obtain ⟨_, _, q0, q1, q2, q3⟩ := hB i (by omega)
        simp only [rowM, hget i hi]
        match j, hj with
        | 0, _ => exact ⟨_, rfl, q0⟩
        | 1, _ => exact ⟨_, rfl, q1⟩
        | 2, _ => exact ⟨_, rfl, q2⟩
        | 3, _ => exact ⟨_, rfl, q3⟩)
    refine ⟨(List.range len).map fun i => (B i).2, p, ?_, ?_, by simpa using hp⟩
    · simp only [List.length_map, List.length_range]
      exact Nat.le_trans hl hm
    · intro i
      rcases Nat.lt_or_ge i len with hi | hi
      · rw [hget i hi]; exact (hB i (by omega)).2.1
      · rw [getD_noneL dM (by simpa using hi)]; exact dM_ok

variable {r : Reach} {b0 : Nat} {v : Value} {d : DataW Hh} {ps : List MemPlace}

/-- The same at the head of the arguments. -/
theorem top_slice {e : TypeId} (ht : P.underlying t = some (.slice e)) (hv : Value.okWide P W r b0 t v) (h : DataW.Trod enc P W base (fun _ => true) held t v d ps) :
    ∃ (fuel : Nat) (y : DataW Hh × List MemPlace), DataW.trod enc P W base (fun _ => true) held fuel t [v] = some y := by
  obtain ⟨a, len, cap, rfl⟩ := okWide_slice ht hv
  obtain ⟨fuel, hf⟩ := h
  exact ⟨fuel, _, by simpa [Value.cells] using hf⟩

end
end Go.Sim
