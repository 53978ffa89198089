/- A pure account of the values, floats and memory of a run, and how it stands to the model's (part 22: the model's own functions of numbers). Conditions: none. -/
import Derived.Test.YtgjdkhocnnoimaaS19
import Derived.ProofKit
import Derived.Laws.Cover2
import Derived.Deep.Fields
import Derived.Deep.Slices
import Derived.ChangeArms
import Derived.OpenShut
import Derived.ChangeOld
import Derived.Laws.Externs
import Derived.Laws.FloatBits

section
namespace Go.Sim
open Go Go.Deep Go.RowKit

/-- A real value of a statement's arguments: what stands for it, the blocks that it leads to (the first is called 'k'); none of them is written. -/
structure Arg (W : World) (k : Nat) (v u : Value) (ps : List Place) (H : Heap) : Prop where
  len : ps.length = H.length
  ro : ∀ (i : Nat) (b : Blk), H[i]? = some (some b) → b.own = false
  blk : ∀ (ι : List Place) (i : Nat) (p : Place) (b : Blk), (∀ (i : Nat) (p : Place), ps[i]? = some p → ι[k + i]? = some p) → ps[i]? = some p → H[i]? = some (some b) → BlkOk ι W p b
  lt : ∀ (i : Nat) (p : Place) (rb : Nat), ps[i]? = some p → p.blk = some rb → rb < W.heap.size
  val : ∀ (ι : List Place), (∀ (i : Nat) (p : Place), ps[i]? = some p → ι[k + i]? = some p) → VR ι u v

structure Args (W : World) (k : Nat) (vs us : List Value) (ps : List Place) (H : Heap) : Prop where
  len : ps.length = H.length
  ro : ∀ (i : Nat) (b : Blk), H[i]? = some (some b) → b.own = false
  blk : ∀ (ι : List Place) (i : Nat) (p : Place) (b : Blk), (∀ (i : Nat) (p : Place), ps[i]? = some p → ι[k + i]? = some p) → ps[i]? = some p → H[i]? = some (some b) → BlkOk ι W p b
  lt : ∀ (i : Nat) (p : Place) (rb : Nat), ps[i]? = some p → p.blk = some rb → rb < W.heap.size
  val : ∀ (ι : List Place), (∀ (i : Nat) (p : Place), ps[i]? = some p → ι[k + i]? = some p) → VRs ι us vs

theorem Args.nil (W : World) (k : Nat) : Args W k [] [] [] [] :=
  ⟨rfl, fun i b h => by simp at h, fun ι i p b _ h => by simp at h, fun i p rb h => by simp at h, fun _ _ => .nil⟩

theorem app_get {α : Type} {l m : List α} {i : Nat} {x : α} (h : (l ++ m)[i]? = some x) : l[i]? = some x ∨ (l.length ≤ i ∧ m[i - l.length]? = some x) := by
  rcases Nat.lt_or_ge i l.length with h' | h'
  · rw [List.getElem?_append_left h'] at h; exact .inl h
  · rw [List.getElem?_append_right h'] at h; exact .inr ⟨h', h⟩

theorem Args.cons {W : World} {k k' : Nat} {v u : Value} {vs us : List Value} {ps qs : List Place} {H G : Heap} (h : Arg W k v u ps H) (g : Args W k' vs us qs G) (hk : k' = k + ps.length) : Args W k (v :: vs) (u :: us) (ps ++ qs) (H ++ G) := by
  have left : ∀ ι : List Place, (∀ (i : Nat) (p : Place), (ps ++ qs)[i]? = some p → ι[k + i]? = some p) → ∀ (i : Nat) (p : Place), ps[i]? = some p → ι[k + i]? = some p := fun ι hι i p hp =>
    hι i p (by rw [List.getElem?_append_left (some_lt hp)]; exact hp)
  have right : ∀ ι : List Place, (∀ (i : Nat) (p : Place), (ps ++ qs)[i]? = some p → ι[k + i]? = some p) → ∀ (i : Nat) (p : Place), qs[i]? = some p → ι[k' + i]? = some p := fun ι hι i p hp => by
    have := hι (ps.length + i) p (by rw [List.getElem?_append_right (by omega)]; simpa using hp)
    rw [hk, Nat.add_assoc]; exact this
  refine ⟨by simp [h.len, g.len], fun i b hb => ?_, fun ι i p b hι hp hb => ?_, fun i p rb hp hrb => ?_, fun ι hι => .cons (h.val ι (left ι hι)) (g.val ι (right ι hι))⟩
  · rcases app_get hb with hb | ⟨_, hb⟩
    · exact h.ro i b hb
    · exact g.ro _ b hb
  · have hl := h.len
    rcases app_get hp with hp' | ⟨h1, hp'⟩
    · have := some_lt hp'
      rw [List.getElem?_append_left (by omega)] at hb
      exact h.blk ι i p b (left ι hι) hp' hb
    · rw [List.getElem?_append_right (by omega)] at hb
      rw [hl] at hp'
      exact g.blk ι _ p b (right ι hι) hp' hb
  · rcases app_get hp with hp' | ⟨_, hp'⟩
    · exact h.lt i p rb hp' hrb
    · exact g.lt _ p rb hp' hrb

theorem Args.agg {W : World} {k : Nat} {vs us : List Value} {ps : List Place} {H : Heap} (h : Args W k vs us ps H) : Arg W k (.agg ⟨vs⟩) (.agg ⟨us⟩) ps H :=
  ⟨h.len, h.ro, h.blk, h.lt, fun ι hι => .agg (h.val ι hι)⟩

theorem Args.rh {W : World} {vs us : List Value} {ps : List Place} {H : Heap} (h : Args W 0 vs us ps H) : RH ps H W ∧ VRs ps us vs := by
  have self : ∀ (i : Nat) (p : Place), ps[i]? = some p → ps[0 + i]? = some p := fun i p hp => by rw [Nat.zero_add]; exact hp
  exact ⟨⟨h.len, fun i p b hp hb => h.blk ps i p b self hp hb, fun i j p q b c rb _ hb ho _ _ _ _ => (by rw [h.ro i b hb] at ho; cases ho), fun i p b rb hp _ hrb => h.lt i p rb hp hrb⟩, h.val ps self⟩

/-- A law is called: it answers true, and what was there is as it was. -/
theorem law_calls {P : Program} {f : FuncId} {W : World} {vs us : List Value} {ps : List Place} {H H' : Heap} (hE : Ev P f us H (.bool true) H') (h : Args W 0 vs us ps H) :
    Calls P f ⟨vs⟩ W fun e w' => e = .returned (.bool true) ∧ Below W.heap.size W w' := by
  obtain ⟨hrh, hvs⟩ := h.rh
  refine ((hE ps W vs hrh hvs).2).mono fun e w' ⟨ι', v', he, hv, hx⟩ => ?_
  have := vr_bool_inv hv
  subst this
  refine ⟨he, hx.fr.os, hx.fr.tape, hx.fr.output, hx.fr.size, fun rb hrb => hx.fr.block rb hrb ?_⟩
  rintro ⟨i, p, b, _, hb, ho, _⟩
  rw [h.ro i b hb] at ho; cases ho

/-! ### By kinds -/

section
variable {Hh : Type} {enc : TypeId × Value → Hh} {P : Program} {W : World} {base : Nat} {spare : Nat → Bool} {held : Bool} {fuel : Nat} {t : TypeId} {cs : List Value} {x : DataW Hh × List MemPlace}

theorem cell_at {a : Addr} {v : Value} (h : W.cell? a = some v) : a.spot = none ∧ a.block < W.heap.size ∧ ∃ cs e f, W.heap[a.block]? = some (.cells cs e f) ∧ cs[a.off]? = some v := by
  refine ⟨World.cell?_spot h, ?_⟩
  unfold World.cell? at h
  split at h
  · rename_i c e f hb
    refine ⟨(Array.getElem?_eq_some_iff.1 hb).1, c, e, f, hb, ?_⟩
    split at h
    · cases h
    · exact h
  · cases h

/-- A slice of one-cell elements: 'g' makes of a cell the pure cell. -/
theorem arg_rows {a : Addr} {len cap k : Nat} {c : Cont} {V : Nat → Value} (hl : len ≤ cap) (hsz : c.sz = 1) (hrows : c.rows = len) (hV : ∀ i, i < cap → W.cell? (a.add i) = some (V i))
    (hrow : ∀ i, i < len → ∃ u, c.row i = [u] ∧ (∀ ι, VR ι u (V i)) ∧ (V i).oneCell' = true) :
    ∃ p, Arg W k (.slice (some a) len cap) (.slice (some ⟨k, 0, none⟩) len 1) [p] [some ⟨false, c⟩] := by
  have single : ∀ {p p' : Place} {i : Nat}, ([p] : List Place)[i]? = some p' → i = 0 ∧ p' = p := fun {p p' i} h => by
    cases i with
    | zero => simp at h; exact ⟨rfl, h.symm⟩
    | succ i => simp at h
  by_cases hcap : cap = 0
  · subst hcap
    have hl0 : len = 0 := by omega
    subst hl0
    refine ⟨⟨none, 0, 1, 0⟩, rfl, fun i b hb => ?_, fun ι i p b _ hp hb => ?_, fun i p rb hp hrb => ?_, fun ι _ => .slice0 (fun h => absurd h (by decide))⟩
    · cases i with
      | zero => simp at hb; subst hb; rfl
      | succ i => simp at hb
    · obtain ⟨rfl, rfl⟩ := single hp
      simp at hb; subst hb
      refine ⟨hsz.symm, fun r hr => ?_, fun r j hr => ?_, fun ho => by cases ho⟩
      · simp [hrows] at hr
      · simp [hrows] at hr
    · obtain ⟨rfl, rfl⟩ := single hp; cases hrb
  · have h0 := cell_at (hV 0 (by omega))
    obtain ⟨b, off, spot⟩ := a
    simp only [Addr.add] at h0 hV
    obtain ⟨rfl, hlt, _⟩ := h0
    refine ⟨⟨some b, off, 1, cap⟩, rfl, fun i bb hb => ?_, fun ι i p bb _ hp hb => ?_, fun i p rb hp hrb => ?_, fun ι hι => ?_⟩
    · cases i with
      | zero => simp at hb; subst hb; rfl
      | succ i => simp at hb
    · obtain ⟨rfl, rfl⟩ := single hp
      simp at hb; subst hb
      refine ⟨hsz.symm, fun r hr => ?_, fun r j hr hj => ?_, fun ho => by cases ho⟩
      · simp only [hrows] at hr
        obtain ⟨u, h1, _⟩ := hrow r hr
        simp [h1, hsz]
      · simp only [hrows] at hr
        simp only [hsz] at hj
        obtain rfl : j = 0 := by omega
        obtain ⟨u, h1, h2, h3⟩ := hrow r hr
        obtain ⟨_, _, cs, e, f, g1, g2⟩ := cell_at (hV r (by omega))
        have e1 : (if r = 0 then ({ block := b, off := off } : Addr) else { block := b, off := off + r }) = { block := b, off := off + r } := by
          split
          · rename_i h; subst h; rfl
          · rfl
        rw [e1] at g1 g2
        exact ⟨b, cs, e, f, V r, u, rfl, g1, by simpa using g2, by simp [h1], h2 ι, h3⟩
    · obtain ⟨rfl, rfl⟩ := single hp
      simp at hrb; subst hrb; exact hlt
    · have := hι 0 _ rfl
      have hs := VR.slice (ι := ι) (b := k) (i := 0) (l := len) (c := 1) (c' := cap) this rfl hl (by simp) (by intro h; cases h)
      simpa using hs

theorem nil_slice {k : Nat} {c : Cont} (hsz : c.rows = 0) : Arg W k (.slice none 0 0) (.slice (some ⟨k, 0, none⟩) 0 1) [⟨none, 0, c.sz, 0⟩] [some ⟨false, c⟩] := by
  refine ⟨rfl, fun i b hb => ?_, fun ι i p b _ hp hb => ?_, fun i p rb hp hrb => ?_, fun ι _ => .slice0 (fun h => absurd h (by decide))⟩
  · cases i with
    | zero => simp at hb; subst hb; rfl
    | succ i => simp at hb
  · cases i with
    | zero =>
      simp at hp hb; subst hp; subst hb
      exact ⟨rfl, fun r hr => by simp [hsz] at hr, fun r j hr => by simp [hsz] at hr, fun ho => by cases ho⟩
    | succ i => simp at hp
  · cases i with
    | zero => simp at hp; subst hp; cases hrb
    | succ i => simp at hp

/-- A slice of integers that came in. -/
theorem cell_ints {e : TypeId} {k : IntKind} {n : Nat} (ht : P.underlying t = some (.slice e)) (he : P.underlying e = some (.int k)) (hc : P.cellsOf e = 1) {v : Value}
    (h : DataW.trod enc P W base (fun _ => true) held fuel t [v] = some x) :
    ∃ (xs : List Int) (p : Place), xs.length ≤ 9223372036854775807 ∧ (∀ y ∈ xs, (Lit.int k y).wf = true) ∧ Arg W n v (.slice (some ⟨n, 0, none⟩) xs.length 1) [p] [some ⟨false, .it k xs⟩] := by
  rcases open_slice1 ht hc h with ⟨hcs, _⟩ | ⟨a, len, cap, m, n', V, D, Pl, hcs, _, hl, hm, hmm, _, hV⟩
  · simp only [List.cons.injEq, and_true] at hcs; subst hcs
    exact ⟨[], _, by simp, by simp, nil_slice (c := .it k []) rfl⟩
  · simp only [List.cons.injEq, and_true] at hcs; subst hcs
    simp only [if_true] at hmm
    subst hmm
    have hb : ∀ i, ∃ b, i < m → V i = .int k b ∧ (Lit.int k b).wf = true := fun i => by
      by_cases hi : i < m
      · obtain ⟨b, h1, _, h2⟩ := DataW.trod_int he (hV i hi).2
        simp only [List.cons.injEq, and_true] at h1
        exact ⟨b, fun _ => ⟨h1, h2⟩⟩
      · exact ⟨0, fun h => absurd h hi⟩
    let B : Nat → Int := fun i => Classical.choose (hb i)
    have hB : ∀ i, i < m → V i = .int k (B i) ∧ (Lit.int k (B i)).wf = true := fun i hi => Classical.choose_spec (hb i) hi
    obtain ⟨p, hp⟩ := arg_rows (W := W) (a := a) (len := len) (cap := m) (k := n) (c := .it k ((List.range len).map B)) (V := V) hl rfl (by simp [Cont.rows])
      (fun i hi => (hV i hi).1) (fun i hi => by
        obtain ⟨h1, h2⟩ := hB i (by omega)
        refine ⟨.int k (B i), ?_, fun ι => by rw [h1]; exact .int k _, by rw [h1]; rfl⟩
        simp [Cont.row, hi])
    refine ⟨(List.range len).map B, p, ?_, ?_, by simpa using hp⟩
    · simp only [List.length_map, List.length_range]
      exact Nat.le_trans hl hm
    · intro y hy
      simp only [List.mem_map, List.mem_range] at hy
      obtain ⟨i, hi, rfl⟩ := hy
      exact (hB i (by omega)).2

end
end Go.Sim
end

section
namespace Go.Sim
open Go Go.Deep Go.RowKit Go.ChangeShapes Go.WideShapes

section
variable {Hh : Type} {enc : TypeId × Value → Hh} {P : Program} {W : World}

/-- All arguments read behind the call as before it. -/
theorem trodAll_below (hl : laidOutB P = true) {W' : World} (hb : Below W.heap.size W W') : ∀ {ts : List TypeId} {vs : List Value} {ds : List (DataW Hh)} {ps : List MemPlace},
    (ts.all fun t => P.readableRec t && decide (t < P.types.size)) = true → DataW.TrodAll enc P W 0 (fun _ => true) true ts vs ds ps → DataW.TrodAll enc P W' 0 (fun b => decide (b < W.heap.size)) true ts vs ds ps
  | [], [], [], _, _, h => h
  | [], [], _ :: _, _, _, h => h.elim
  | [], _ :: _, _, _, _, h => by cases h
  | _ :: _, [], _, _, _, h => by cases h
  | _ :: _, _ :: _, [], _, _, h => by cases h
  | t :: ts, v :: vs, d :: ds, ps, ht, h => by
    obtain ⟨p, q, h1, h2, rfl⟩ := h
    simp only [List.all_cons, Bool.and_eq_true, decide_eq_true_eq] at ht
    have k := h1
    refine ⟨p, q, Below.trod hl ht.1.1 ht.1.2 h1 hb ?_, trodAll_below hl hb (by simpa using ht.2) h2, rfl⟩
    obtain ⟨m, hm⟩ := k
    exact DataW.trod_lt m _ _ _ hm

variable {r : Reach} {b0 base : Nat} {t : TypeId} {v : Value} {d : DataW Hh} {ps : List MemPlace} {held : Bool}

theorem top_ints {e : TypeId} {k : IntKind} {n : Nat} (ht : P.underlying t = some (.slice e)) (he : P.underlying e = some (.int k)) (hc : P.cellsOf e = 1) (hv : Value.okWide P W r b0 t v) (h : DataW.Trod enc P W base (fun _ => true) held t v d ps) :
    ∃ (xs : List Int) (p : Place), Arg W n v (.slice (some ⟨n, 0, none⟩) xs.length 1) [p] [some ⟨false, .it k xs⟩] ∧ xs.length ≤ 9223372036854775807 ∧ ∀ y ∈ xs, (Lit.int k y).wf = true := by
  obtain ⟨a, len, cap, rfl⟩ := okWide_slice ht hv
  obtain ⟨fuel, hf⟩ := h
  obtain ⟨xs, p, h1, h2, h3⟩ := cell_ints (n := n) ht he hc (v := .slice a len cap) (by simpa [Value.cells] using hf)
  exact ⟨xs, p, h3, h1, h2⟩

end
end Go.Sim
end

section
namespace Go.Sim
open Go

theorem vrs_one {ι : List Place} {v : Value} {l : List Value} (h : VRs ι [v] l) : ∃ u, l = [u] ∧ VR ι v u := by
  cases h with | cons h hs => cases hs; exact ⟨_, rfl, h⟩

theorem vr_float {ι : List Place} {k : FloatKind} {x : Nat} {v : Value} (h : VR ι (.float k x) v) : ∃ b, v = .float k b ∧ canon k b = x ∧ okW k b := by
  cases h with | float h g => exact ⟨_, rfl, h, g⟩

theorem run_sqrt1 (b r : Nat) (h : FloatKind.f64.format.sqrt b = some r) : Extern.MathSqrt.sqrt #[.float .f64 b] = pure (.float .f64 r) := by
  change (match FloatKind.f64.format.sqrt b with | some r => (pure (.float .f64 r) : Sem Value) | none => _) = _
  rw [h]
theorem run_sqrt2 (b : Nat) (h : FloatKind.f64.format.sqrt b = none) : Extern.MathSqrt.sqrt #[.float .f64 b] = (do let r ← choose (.nanBits .f64 b b); pure (.float .f64 r)) := by
  change (match FloatKind.f64.format.sqrt b with | some r => (pure (.float .f64 r) : Sem Value) | none => _) = _
  rw [h]
section
variable {P : Program} {f : FuncId} {fn : Func}

theorem EvX.of {e : Array Value → Sem Value} {args : List Value} {v : Value} (hf : P.funcs[f]? = some fn) (hname : (fn.name == "runtime.NumGoroutine") = false) (hb : fn.body.isNone = true) (hn : Extern.findNext fn = none)
    (he : Extern.find fn = some e) (h : ∀ (ι : List Place) (w : World) (args' : List Value), VRs ι args args' → ∃ v' w', (e ⟨args'⟩).run P w = .ok v' w' ∧ Drawn w w' ∧ VR [] v v') : EvX P f args v := by
  intro ι w args' ha
  obtain ⟨v', w', h1, h2, h3⟩ := h ι w args' ha
  exact ⟨v', w', by rw [run_callFunc_extern hf hname hb hn he, h1]; rfl, h2, h3⟩

/-- The square root. -/
def sqrtW (x : Nat) : Nat := match FloatKind.f64.format.sqrt x with
  | some r => canon .f64 r
  | none => cNaN .f64

theorem evx_sqrt (hf : P.funcs[f]? = some fn) (hname : (fn.name == "runtime.NumGoroutine") = false) (hb : fn.body.isNone = true) (hn : Extern.findNext fn = none)
    (he : Extern.find fn = some Extern.MathSqrt.sqrt) (x : Nat) (_ : True) : EvX P f [.float .f64 x] (.float .f64 (sqrtW x)) := by
  refine EvX.of hf hname hb hn he fun ι w args' ha => ?_
  obtain ⟨u, rfl, hu⟩ := vrs_one ha
  obtain ⟨b, rfl, h1, _⟩ := vr_float hu
  have hs : sqrtW x = sqrtW b := by
    subst h1
    unfold sqrtW Ieee.Format.sqrt
    have hx := read_canon .f64 b
    unfold FloatKind.decode at hx
    rcases hx with hx | ⟨g1, g2⟩
    · rw [hx]
    · have e : ∀ d : Ieee.Datum, d.isNaN = true → d.root (FloatKind.f64.format.fractionBits + 2) = none := by
        intro d hd; cases d <;> simp [Ieee.Datum.isNaN] at hd; rfl
      rw [e _ g1, e _ g2]
  rw [hs]
  show ∃ v' w', (Extern.MathSqrt.sqrt #[.float .f64 b]).run P w = .ok v' w' ∧ _
  unfold sqrtW
  cases hr : FloatKind.f64.format.sqrt b with
  | some r =>
    rw [run_sqrt1 b r hr]
    exact ⟨_, w, rfl, Drawn.refl w, .float rfl (FloatKind.f64.format.sqrt_lt hr)⟩
  | none =>
    rw [run_sqrt2 b hr]
    obtain ⟨r, w', k1, k2, k3, k4⟩ := run_choose_nan (P := P) (a := b) (b := b) (m := false) .f64 (.nanBits .f64 b b) w (Or.inl rfl)
    exact ⟨.float .f64 r, w', by simp [k1], k2, .float (canon_of_nan k4) k3⟩

end

/-! ### Not-a-numbers -/

end Go.Sim
end
