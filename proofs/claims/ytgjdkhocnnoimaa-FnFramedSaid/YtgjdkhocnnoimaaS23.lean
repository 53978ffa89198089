/- A pure account of the values, floats and memory of a run, and how it stands to the model's (part 23: slices of structs of three float32). Conditions: none. -/
import Derived.Test.YtgjdkhocnnoimaaS22
namespace Go.Sim
open Go Go.Deep Go.RowKit Go.ChangeShapes Go.WideShapes

/-- Three float32s in a row. -/
def row3 (xs : List (Nat × Nat × Nat)) (i : Nat) : List Sc := [.f .f32 (List.getD xs i (0, 0, 0)).1, .f .f32 (List.getD xs i (0, 0, 0)).2.1, .f .f32 (List.getD xs i (0, 0, 0)).2.2]

theorem row3_zero (n : Nat) : ∀ i : Nat, [Sc.f .f32 0, .f .f32 0, .f .f32 0] = row3 (List.replicate n (0, 0, 0)) i := by
  intro i
  unfold row3
  rcases Nat.lt_or_ge i n with h | h
  · simp [h]
  · simp [List.getElem?_eq_none (show (List.replicate n ((0, 0, 0) : Nat × Nat × Nat)).length ≤ i by simpa using h)]

theorem row3_set {xs : List (Nat × Nat × Nat)} {r a b c : Nat} (h : r < xs.length) : ∀ i : Nat, (bif Nat.beq i r then splice (row3 xs i) 0 [Sc.f .f32 a, .f .f32 b, .f .f32 c] else row3 xs i) = row3 (xs.set r (a, b, c)) i := by
  intro i
  cases hb : Nat.beq i r with
  | true =>
    have := Nat.eq_of_beq_eq_true hb; subst this
    simp [row3, splice, h]
  | false =>
    have hne : i ≠ r := fun e => by subst e; simp at hb
    simp only [cond_false, row3, List.getD_eq_getElem?_getD, List.getElem?_set, if_neg (Ne.symm hne)]

section
variable {Hh : Type} {enc : TypeId × Value → Hh} {P : Program} {W : World} {base : Nat} {held : Bool} {fuel : Nat} {t : TypeId} {x : DataW Hh × List MemPlace}

/-- A slice of elements of 's' cells. -/
theorem arg_rowsS {s : Nat} (hs0 : 0 < s) {a : Addr} {len cap k : Nat} {c : Cont} {V : Nat → Nat → Value} (hl : len ≤ cap) (hsz : c.sz = s) (hrows : c.rows = len) (hV : ∀ i j, i < cap → j < s → W.cell? (a.add (i * s + j)) = some (V i j))
    (hlen : ∀ i, i < len → (c.row i).length = s) (hrow : ∀ i j, i < len → j < s → ∃ u, (c.row i)[j]? = some u ∧ (∀ ι, VR ι u (V i j)) ∧ (V i j).oneCell' = true) (hpl : c.plainC = true := by rfl) :
    ∃ p, Arg W k (.slice (some a) len cap) (.slice (some ⟨k, 0, none⟩) len 1) [p] [some ⟨false, c⟩] := by
  have single : ∀ {p p' : Place} {i : Nat}, ([p] : List Place)[i]? = some p' → i = 0 ∧ p' = p := fun {p p' i} h => by
    cases i with
    | zero => simp at h; exact ⟨rfl, h.symm⟩
    | succ i => simp at h
  by_cases hcap : cap = 0
  · subst hcap
    have hl0 : len = 0 := by omega
    subst hl0
    refine ⟨⟨none, 0, s, 0⟩, rfl, fun i b hb => ?_, fun ι i p b _ hp hb => ?_, fun i p rb hp hrb => ?_, fun ι _ => .slice0 (fun h => absurd h (by decide)), fun i r j own xs v hc => (no_hid1 hpl hc).elim⟩
    · cases i with
      | zero => simp at hb; subst hb; rfl
      | succ i => simp at hb
    · obtain ⟨rfl, rfl⟩ := single hp
      simp at hb; subst hb
      refine ⟨hsz.symm, fun r hr => ?_, fun r j hr => ?_, fun ho => (by cases ho), fun r k hk => by rw [vias_plain hpl] at hk; cases hk⟩
      · simp [hrows] at hr
      · simp [hrows] at hr
    · obtain ⟨rfl, rfl⟩ := single hp; cases hrb
  · have h0 := cell_at (hV 0 0 (by omega) hs0)
    obtain ⟨b, off, spot⟩ := a
    simp only [Addr.add] at h0 hV
    obtain ⟨h00, hlt, _⟩ := h0
    have hspot : spot = none := by simpa using h00
    subst hspot
    refine ⟨⟨some b, off, s, cap⟩, rfl, fun i bb hb => ?_, fun ι i p bb _ hp hb => ?_, fun i p rb hp hrb => ?_, fun ι hι => ?_, fun i r j own xs v hc => (no_hid1 hpl hc).elim⟩
    · cases i with
      | zero => simp at hb; subst hb; rfl
      | succ i => simp at hb
    · obtain ⟨rfl, rfl⟩ := single hp
      simp at hb; subst hb
      refine ⟨hsz.symm, fun r hr => ?_, fun r j hr hj => ?_, fun ho => (by cases ho), fun r k hk => by rw [vias_plain hpl] at hk; cases hk⟩
      · simp only [hrows] at hr
        rw [hlen r hr, hsz]
      · simp only [hrows] at hr
        simp only [hsz] at hj
        obtain ⟨u, h1, h2, h3⟩ := hrow r j hr hj
        obtain ⟨_, _, cs, e, f, g1, g2⟩ := cell_at (hV r j (by omega) hj)
        have e1 : (if r * s + j = 0 then ({ block := b, off := off } : Addr) else { block := b, off := off + (r * s + j) }) = { block := b, off := off + (r * s + j) } := by
          split
          · rename_i h; rw [h]; rfl
          · rfl
        rw [e1] at g1 g2
        exact ⟨b, cs, e, f, V r j, u, rfl, g1, by simpa [Nat.add_assoc] using g2, h1, h2 ι, h3⟩
    · obtain ⟨rfl, rfl⟩ := single hp
      simp at hrb; subst hrb; simpa using hlt
    · have := hι 0 _ rfl
      have hs := VR.slice (ι := ι) (b := k) (i := 0) (l := len) (c := 1) (c' := cap) this rfl hl (by simp) (by intro h; cases h)
      simpa using hs

theorem add_add' (a : Addr) (m n : Nat) : (a.add m).add n = a.add (m + n) := Go.Deep.add_add a m n

/-- A slice of structs of three float32s that came in. -/
theorem cell_accs {e : TypeId} {f0 f1 f2 : Field} {n : Nat} (ht : P.underlying t = some (.slice e)) (he : P.underlying e = some (.struct #[f0, f1, f2])) (ce : P.cellsOf e = 3)
    (o0 : f0.offset = 0) (o1 : f1.offset = 1) (o2 : f2.offset = 2) (c0 : P.cellsOf f0.type = 1) (c1 : P.cellsOf f1.type = 1) (c2 : P.cellsOf f2.type = 1)
    (u0 : P.underlying f0.type = some (.float .f32)) (u1 : P.underlying f1.type = some (.float .f32)) (u2 : P.underlying f2.type = some (.float .f32)) {v : Value}
    (h : DataW.trod enc P W base (fun _ => true) held fuel t [v] = some x) :
    ∃ (xs : List (Nat × Nat × Nat)) (p : Place), xs.length ≤ 9223372036854775807 ∧ (∀ y ∈ xs, (canon .f32 y.1 = y.1 ∧ okW .f32 y.1) ∧ (canon .f32 y.2.1 = y.2.1 ∧ okW .f32 y.2.1) ∧ (canon .f32 y.2.2 = y.2.2 ∧ okW .f32 y.2.2)) ∧
      Arg W n v (.slice (some ⟨n, 0, none⟩) xs.length 1) [p] [some ⟨false, .fn xs.length 3 (row3 xs)⟩] := by
  rcases open_slice ht h with ⟨hcs, _⟩ | ⟨a, len, cap, m, n', D, Pl, hcs, _, hl, hm, hmm, _, hx⟩
  · simp only [List.cons.injEq, and_true] at hcs; subst hcs
    exact ⟨[], _, by simp, by simp, nil_slice (c := .fn 0 3 (row3 [])) rfl⟩
  · simp only [List.cons.injEq, and_true] at hcs; subst hcs
    simp only [if_true] at hmm
    subst hmm
    have hb : ∀ i, ∃ q : Nat × Nat × Nat, i < m → W.cell? (a.add (i * 3)) = some (.float .f32 q.1) ∧ W.cell? (a.add (i * 3 + 1)) = some (.float .f32 q.2.1) ∧ W.cell? (a.add (i * 3 + 2)) = some (.float .f32 q.2.2) ∧ okW .f32 q.1 ∧ okW .f32 q.2.1 ∧ okW .f32 q.2.2 := fun i => by
      by_cases hi : i < m
      · obtain ⟨cs', h1, h2⟩ := hx i hi
        rw [ce] at h1
        obtain ⟨_, hlen, hcell⟩ := World.cells?_some h1
        obtain ⟨xs, k, hk, hxy, _, hxl, hf⟩ := DataW.trod_struct he h2
        match xs, hxl, cs', hlen with
        | [y0, y1, y2], _, [v0, v1, v2], _ =>
          have g0 := hf 0 f0 rfl
          have g1 := hf 1 f1 rfl
          have g2 := hf 2 f2 rfl
          simp [o0, o1, o2, c0, c1, c2] at g0 g1 g2
          have e0 := hcell 0 (by omega)
          have e1 := hcell 1 (by omega)
          have e2 := hcell 2 (by omega)
          rw [add_add'] at e0 e1 e2
          obtain ⟨b0, d0, w0⟩ := trod_float u0 g0
          obtain ⟨b1, d1, w1⟩ := trod_float u1 g1
          obtain ⟨b2, d2, w2⟩ := trod_float u2 g2
          simp only [List.cons.injEq, and_true] at d0 d1 d2
          subst d0; subst d1; subst d2
          exact ⟨(b0, b1, b2), fun _ => ⟨by simpa using e0, by simpa using e1, by simpa using e2, w0, w1, w2⟩⟩
      · exact ⟨(0, 0, 0), fun h => absurd h hi⟩
    let B : Nat → Nat × Nat × Nat := fun i => Classical.choose (hb i)
    have hB := fun i (hi : i < m) => Classical.choose_spec (hb i) hi
    let C : Nat → Nat × Nat × Nat := fun i => (canon .f32 (B i).1, canon .f32 (B i).2.1, canon .f32 (B i).2.2)
    let V : Nat → Nat → Value := fun i j => match j with | 0 => .float .f32 (B i).1 | 1 => .float .f32 (B i).2.1 | _ => .float .f32 (B i).2.2
    obtain ⟨p, hp⟩ := arg_rowsS (W := W) (s := 3) (by omega) (a := a) (len := len) (cap := m) (k := n) (c := .fn len 3 (row3 ((List.range len).map C))) (V := V) hl rfl rfl
      (fun i j hi hj => by
        obtain ⟨q0, q1, q2, _⟩ := hB i hi
        match j, hj with
        | 0, _ => exact q0
        | 1, _ => exact q1
        | 2, _ => exact q2)
      (fun i hi => by simp [Cont.row, row3]) (fun i j hi hj => by
        obtain ⟨_, _, _, w0, w1, w2⟩ := hB i (by omega)
        match j, hj with
        | 0, _ => exact ⟨.float .f32 (canon .f32 (B i).1), by simp [Cont.row, row3, hi, Sc.v, C], fun ι => .float rfl w0, rfl⟩
        | 1, _ => exact ⟨.float .f32 (canon .f32 (B i).2.1), by simp [Cont.row, row3, hi, Sc.v, C], fun ι => .float rfl w1, rfl⟩
        | 2, _ => exact ⟨.float .f32 (canon .f32 (B i).2.2), by simp [Cont.row, row3, hi, Sc.v, C], fun ι => .float rfl w2, rfl⟩)
    refine ⟨(List.range len).map C, p, ?_, ?_, by simpa using hp⟩
    · simp only [List.length_map, List.length_range]
      exact Nat.le_trans hl hm
    · intro y hy
      simp only [List.mem_map, List.mem_range] at hy
      obtain ⟨i, hi, rfl⟩ := hy
      obtain ⟨_, _, _, w0, w1, w2⟩ := hB i (by omega)
      exact ⟨⟨canon_canon _ _, okW_canon w0⟩, ⟨canon_canon _ _, okW_canon w1⟩, ⟨canon_canon _ _, okW_canon w2⟩⟩

end
end Go.Sim
