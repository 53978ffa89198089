/- A pure account of the values, floats and memory of a run, and how it stands to the model's (part 21: arguments by their types, and that they read as before). Conditions: none. -/
import Derived.Test.YtgjdkhocnnoimaaS20
import Derived.ChangeOld
namespace Go.Sim
open Go Go.Deep Go.RowKit Go.ChangeShapes Go.WideShapes

theorem list_1 {α : Type} {l : List α} (h : l.length = 1) : ∃ a0, l = [a0] := by
  match l, h with
  | [a0], _ => exact ⟨a0, rfl⟩

theorem list_2 {α : Type} {l : List α} (h : l.length = 2) : ∃ a0 a1, l = [a0, a1] := by
  match l, h with
  | [a0, a1], _ => exact ⟨a0, a1, rfl⟩

theorem list_3 {α : Type} {l : List α} (h : l.length = 3) : ∃ a0 a1 a2, l = [a0, a1, a2] := by
  match l, h with
  | [a0, a1, a2], _ => exact ⟨a0, a1, a2, rfl⟩

theorem list_4 {α : Type} {l : List α} (h : l.length = 4) : ∃ a0 a1 a2 a3, l = [a0, a1, a2, a3] := by
  match l, h with
  | [a0, a1, a2, a3], _ => exact ⟨a0, a1, a2, a3, rfl⟩

theorem list_5 {α : Type} {l : List α} (h : l.length = 5) : ∃ a0 a1 a2 a3 a4, l = [a0, a1, a2, a3, a4] := by
  match l, h with
  | [a0, a1, a2, a3, a4], _ => exact ⟨a0, a1, a2, a3, a4, rfl⟩

theorem list_6 {α : Type} {l : List α} (h : l.length = 6) : ∃ a0 a1 a2 a3 a4 a5, l = [a0, a1, a2, a3, a4, a5] := by
  match l, h with
  | [a0, a1, a2, a3, a4, a5], _ => exact ⟨a0, a1, a2, a3, a4, a5, rfl⟩

theorem list_7 {α : Type} {l : List α} (h : l.length = 7) : ∃ a0 a1 a2 a3 a4 a5 a6, l = [a0, a1, a2, a3, a4, a5, a6] := by
  match l, h with
  | [a0, a1, a2, a3, a4, a5, a6], _ => exact ⟨a0, a1, a2, a3, a4, a5, a6, rfl⟩

theorem list_8 {α : Type} {l : List α} (h : l.length = 8) : ∃ a0 a1 a2 a3 a4 a5 a6 a7, l = [a0, a1, a2, a3, a4, a5, a6, a7] := by
  match l, h with
  | [a0, a1, a2, a3, a4, a5, a6, a7], _ => exact ⟨a0, a1, a2, a3, a4, a5, a6, a7, rfl⟩

theorem list_9 {α : Type} {l : List α} (h : l.length = 9) : ∃ a0 a1 a2 a3 a4 a5 a6 a7 a8, l = [a0, a1, a2, a3, a4, a5, a6, a7, a8] := by
  match l, h with
  | [a0, a1, a2, a3, a4, a5, a6, a7, a8], _ => exact ⟨a0, a1, a2, a3, a4, a5, a6, a7, a8, rfl⟩

theorem list_10 {α : Type} {l : List α} (h : l.length = 10) : ∃ a0 a1 a2 a3 a4 a5 a6 a7 a8 a9, l = [a0, a1, a2, a3, a4, a5, a6, a7, a8, a9] := by
  match l, h with
  | [a0, a1, a2, a3, a4, a5, a6, a7, a8, a9], _ => exact ⟨a0, a1, a2, a3, a4, a5, a6, a7, a8, a9, rfl⟩

section
variable {Hh : Type} {enc : TypeId × Value → Hh} {P : Program} {W : World}

/-- All arguments read behind the call as before it. -/
theorem trodAll_below (hl : laidOutB P = true) {W' : World} (hb : Below W.heap.size W W') : ∀ {ts : List TypeId} {vs : List Value} {ds : List (DataW Hh)} {ps : List MemPlace},
    (ts.all fun t => P.readableRec t && decide (t < P.types.size)) = true → DataW.TrodAll enc P W 0 (fun _ => true) true ts vs ds ps → DataW.TrodAll enc P W' 0 (fun b => decide (b < W.heap.size)) true ts vs ds ps
  | [], [], [], _, _, h => h
  | [], [], _ :: _, _, _, h => h.elim
  | [], _ :: _, _, _, _, h => by cases h
  | _ :: _, [], _, _, _, h => by cases h
  | _ :: _, _ :: _, [], _, _, h => by cases h
  | t :: ts, v :: vs, d :: ds, ps, ht, h => by
    obtain ⟨p, q, h1, h2, rfl⟩ := h
    simp only [List.all_cons, Bool.and_eq_true, decide_eq_true_eq] at ht
    have k := h1
    refine ⟨p, q, Below.trod hl ht.1.1 ht.1.2 h1 hb ?_, trodAll_below hl hb (by simpa using ht.2) h2, rfl⟩
    obtain ⟨m, hm⟩ := k
    exact DataW.trod_lt m _ _ _ hm

variable {r : Reach} {b0 base : Nat} {t : TypeId} {v : Value} {d : DataW Hh} {ps : List MemPlace} {held : Bool}

theorem top_float {k : FloatKind} {n : Nat} (ht : P.underlying t = some (.float k)) (hv : Value.okWide P W r b0 t v) (h : DataW.Trod enc P W base (fun _ => true) held t v d ps) :
    ∃ b, Arg W n v (.float k (canon k b)) [] [] ∧ okW k b := by
  obtain ⟨b, rfl⟩ := okWide_float ht hv
  obtain ⟨fuel, hf⟩ := h
  obtain ⟨b', h1, h2⟩ := trod_float ht hf
  have h1 : b = b' := by simpa [Value.cells] using h1
  subst h1
  exact ⟨b, arg_free fun ι => .float rfl h2, h2⟩

theorem top_int {k : IntKind} {n : Nat} (ht : P.underlying t = some (.int k)) (hv : Value.okWide P W r b0 t v) (h : DataW.Trod enc P W base (fun _ => true) held t v d ps) :
    ∃ i, Arg W n v (.int k i) [] [] ∧ (Lit.int k i).wf = true := by
  obtain ⟨b, rfl⟩ := okWide_int ht hv
  obtain ⟨fuel, hf⟩ := h
  obtain ⟨b', h1, _, h2⟩ := DataW.trod_int ht hf
  have h1 : b = b' := by simpa [Value.cells] using h1
  subst h1
  exact ⟨b, arg_free fun ι => .int k b, h2⟩

theorem top_bool {n : Nat} (ht : P.underlying t = some .bool) (hv : Value.okWide P W r b0 t v) : ∃ i, Arg W n v (.bool i) [] [] := by
  obtain ⟨b, rfl⟩ := okWide_bool ht hv
  exact ⟨b, arg_free fun ι => .bool b⟩

theorem cell_string {spare : Nat → Bool} {fuel : Nat} {x : DataW Hh × List MemPlace} {n : Nat} (ht : P.underlying t = some .string) {v : Value} (h : DataW.trod enc P W base spare held fuel t [v] = some x) : ∃ s, v = .string s ∧ ByteArray.size s ≤ 9223372036854775807 ∧ Arg W n v (.string s) [] [] := by
  obtain ⟨s, h1, _, h2⟩ := DataW.trod_string ht h
  simp only [List.cons.injEq, and_true] at h1
  subst h1
  exact ⟨s, rfl, h2, arg_free fun ι => .string _⟩

theorem top_string {n : Nat} (ht : P.underlying t = some .string) (hv : Value.okWide P W r b0 t v) (h : DataW.Trod enc P W base (fun _ => true) held t v d ps) : ∃ s, Arg W n v (.string s) [] [] ∧ ByteArray.size s ≤ 9223372036854775807 := by
  obtain ⟨s, rfl⟩ := okWide_string ht hv
  obtain ⟨fuel, hf⟩ := h
  obtain ⟨s', h1, h2, h3⟩ := cell_string (n := n) ht (v := .string s) (by simpa [Value.cells] using hf)
  exact ⟨s', h3, h2⟩

theorem top_floats {e : TypeId} {k : FloatKind} {n : Nat} (ht : P.underlying t = some (.slice e)) (he : P.underlying e = some (.float k)) (hc : P.cellsOf e = 1) (hv : Value.okWide P W r b0 t v) (h : DataW.Trod enc P W base (fun _ => true) held t v d ps) :
    ∃ (xs : List Nat) (p : Place), Arg W n v (.slice (some ⟨n, 0, none⟩) xs.length 1) [p] [some ⟨false, .fl k xs⟩] ∧ xs.length ≤ 9223372036854775807 ∧ ∀ y ∈ xs, canon k y = y ∧ okW k y := by
  obtain ⟨a, len, cap, rfl⟩ := okWide_slice ht hv
  obtain ⟨fuel, hf⟩ := h
  obtain ⟨xs, p, h1, h2, h3⟩ := cell_floats (n := n) ht he hc (v := .slice a len cap) (by simpa [Value.cells] using hf)
  exact ⟨xs, p, h3, h1, h2⟩

theorem top_ints {e : TypeId} {k : IntKind} {n : Nat} (ht : P.underlying t = some (.slice e)) (he : P.underlying e = some (.int k)) (hc : P.cellsOf e = 1) (hv : Value.okWide P W r b0 t v) (h : DataW.Trod enc P W base (fun _ => true) held t v d ps) :
    ∃ (xs : List Int) (p : Place), Arg W n v (.slice (some ⟨n, 0, none⟩) xs.length 1) [p] [some ⟨false, .it k xs⟩] ∧ xs.length ≤ 9223372036854775807 ∧ ∀ y ∈ xs, (Lit.int k y).wf = true := by
  obtain ⟨a, len, cap, rfl⟩ := okWide_slice ht hv
  obtain ⟨fuel, hf⟩ := h
  obtain ⟨xs, p, h1, h2, h3⟩ := cell_ints (n := n) ht he hc (v := .slice a len cap) (by simpa [Value.cells] using hf)
  exact ⟨xs, p, h3, h1, h2⟩

theorem cell_floatw {spare : Nat → Bool} {fuel : Nat} {x : DataW Hh × List MemPlace} {k : FloatKind} {n : Nat} (ht : P.underlying t = some (.float k)) {v : Value} (h : DataW.trod enc P W base spare held fuel t [v] = some x) : ∃ b, v = .float k b ∧ okW k b ∧ Arg W n v (.float k (canon k b)) [] [] := by
  obtain ⟨b, hc, hw⟩ := trod_float ht h
  simp only [List.cons.injEq, and_true] at hc
  subst hc
  exact ⟨b, rfl, hw, arg_free fun ι => .float rfl hw⟩

/-- A struct of one-cell fields: its cells, each with its reading. -/
theorem top_struct {fs : Array Field} (ht : P.underlying t = some (.struct fs)) (hone : oneCellFields P fs = true) (hC : P.cellsOf t = fs.size) (hv : Value.okWide P W r b0 t v) (h : DataW.Trod enc P W base (fun _ => true) held t v d ps) :
    ∃ (vs : List Value), v = .agg ⟨vs⟩ ∧ vs.length = fs.size ∧ ∀ (i : Nat) (f : Field), fs[i]? = some f → ∃ (u : Value) (n : Nat) (x : DataW Hh × List MemPlace), vs[i]? = some u ∧ DataW.trod enc P W base (fun _ => true) held n f.type [u] = some x := by
  obtain ⟨cs, rfl, hsz⟩ := okWide_struct ht hv
  obtain ⟨fuel, hf⟩ := h
  obtain ⟨vs⟩ := cs
  obtain ⟨xs, n, _, _, hl, hlen, hfs⟩ := DataW.trod_struct ht hf
  have hsz' : vs.length = fs.size := by simpa [hC] using hsz
  refine ⟨vs, rfl, hsz', fun i f hi => ?_⟩
  obtain ⟨o, k⟩ := hone_of hone i f hi
  have hlt : i < fs.size := (Array.getElem?_eq_some_iff.1 hi).1
  have hx := hfs i f hi
  rw [o, k] at hx
  have hiv : i < vs.length := by omega
  refine ⟨vs[i], n, xs[i]'(by omega), by simp [hiv], ?_⟩
  have e1 : (List.drop i (Value.agg ⟨vs⟩).cells.toList).take 1 = [vs[i]] := by
    simp only [Value.cells]
    rw [List.drop_eq_getElem_cons hiv]; rfl
  rw [e1] at hx
  rw [hx, List.getElem?_eq_getElem]

end
end Go.Sim
