/- Contents that agree on their rows. Conditions: none. -/
import Derived.Test.YtgjdkhocnnoimaaS23
namespace Go.Sim
open Go

theorem BlkOk.rows {ι : List Place} {w : World} {p : Place} {o : Bool} {n sz : Nat} {g g' : Nat → List Sc} (hg : ∀ i, i < n → g i = g' i) (h : BlkOk ι w p ⟨o, .fn n sz g⟩) : BlkOk ι w p ⟨o, .fn n sz g'⟩ := by
  refine ⟨h.sz, fun r hr => ?_, fun r j hr hj => ?_, h.own, fun r k hk => by cases hk⟩
  · have := h.len r hr
    simp only [Cont.row] at this ⊢
    rw [← hg r hr]; exact this
  · have := h.cells r j hr hj
    simp only [Cont.row] at this ⊢
    rw [← hg r hr]; exact this

theorem one_get {α : Type} {x y : α} {i : Nat} (h : [x][i]? = some y) : i = 0 ∧ y = x := by
  cases i with
  | zero => simp at h; exact ⟨rfl, h.symm⟩
  | succ i => simp at h

theorem RH.rows1 {ι : List Place} {w : World} {o : Bool} {n sz : Nat} {g g' : Nat → List Sc} (hg : ∀ i, i < n → g i = g' i) (h : RH ι [some ⟨o, .fn n sz g⟩] w) : RH ι [some ⟨o, .fn n sz g'⟩] w := by
  have hno : ∀ {i r j : Nat} {own : Bool} {xs : List Nat} {v : Value}, HidCell ι [some ⟨o, .fn n sz g'⟩] w i r j own xs v → False := fun hc => no_hid (fun i b hb => by
    obtain ⟨rfl, e⟩ := one_get hb
    simp only [Option.some.injEq] at e; subst e; rfl) hc
  refine ⟨h.len, fun i p b hp hb => ?_, fun i j p q b c rb hp hb _ hq hc hij => ?_, fun i p b rb hp hb hr => ?_,
    ⟨fun i r j own xs v hc => (hno hc).elim, fun i r j own xs v rb hc => (hno hc).elim, fun i p b rb _ _ _ _ i' r j own xs v hc => (hno hc).elim, fun i r j xs v rb hc => (hno hc).elim, fun i r j xs v rb hc => (hno hc).elim⟩⟩
  · obtain ⟨rfl, e⟩ := one_get hb
    simp only [Option.some.injEq] at e; subst e
    exact (h.blk 0 p _ hp rfl).rows hg
  · obtain ⟨rfl, _⟩ := one_get hb
    obtain ⟨rfl, _⟩ := one_get hc
    exact absurd rfl hij
  · obtain ⟨rfl, _⟩ := one_get hb
    exact h.lt 0 p _ rb hp rfl hr

theorem no_own {ι : List Place} {c : Cont} {w : World} {rb : Nat} (h : Own ι [some ⟨false, c⟩] w rb) : False := by
  rcases h with ⟨i, p, b, _, hb, ho, _⟩ | ⟨i, r, j, xs, v, ⟨p, b, n, sz, g, o, rb', cs, e, f, _, hb, ho, _⟩, _⟩
  · obtain ⟨rfl, e⟩ := one_get hb
    simp only [Option.some.injEq] at e; subst e
    cases ho
  · obtain ⟨rfl, e⟩ := one_get hb
    simp only [Option.some.injEq] at e; subst e
    cases ho

theorem Ext.rows1 {ι ι' : List Place} {w w' : World} {n sz : Nat} {g g' : Nat → List Sc} (hg : ∀ i, i < n → g i = g' i) (h : Ext ι [some ⟨false, .fn n sz g⟩] w ι' [some ⟨false, .fn n sz g⟩] w') : Ext ι [some ⟨false, .fn n sz g'⟩] w ι' [some ⟨false, .fn n sz g'⟩] w' :=
  ⟨h.pre, h.rh.rows1 hg, ⟨h.fr.os, h.fr.tape, h.fr.output, h.fr.size, fun rb hr _ => h.fr.block rb hr fun ho => no_own ho⟩, fun _ ho => (no_own ho).elim⟩

theorem Ev.rows1 {P : Program} {f : FuncId} {args : List Value} {v : Value} {n sz : Nat} {g g' : Nat → List Sc} (hg : ∀ i, i < n → g i = g' i) (h : Ev P f args [some ⟨false, .fn n sz g⟩] v [some ⟨false, .fn n sz g⟩]) : Ev P f args [some ⟨false, .fn n sz g'⟩] v [some ⟨false, .fn n sz g'⟩] := by
  intro ι w args' hrh hargs
  obtain ⟨h1, h2⟩ := h ι w args' (hrh.rows1 fun i hi => (hg i hi).symm) hargs
  refine ⟨h1, h2.mono fun e w' ⟨ι', v', a, b, c⟩ => ⟨ι', v', a, b, c.rows1 hg⟩⟩

/-- One more accent behind the others. -/
theorem row3_snoc {xs : List (Nat × Nat × Nat)} {n a b c : Nat} (h : xs.length = n) : ∀ i, i < n + 1 → (bif Nat.blt i n then row3 xs i else (fun _ => [Sc.f .f32 a, .f .f32 b, .f .f32 c]) (i - n)) = row3 (xs ++ [(a, b, c)]) i := by
  intro i hi
  subst h
  cases hb : Nat.blt i xs.length with
  | true =>
    have hl : i < xs.length := Nat.le_of_ble_eq_true hb
    simp [row3, List.getElem?_append_left hl]
  | false =>
    have hl : i = xs.length := by
      rcases Nat.lt_or_ge i xs.length with h' | h'
      · have : Nat.blt i xs.length = true := Nat.ble_eq_true_of_le h'
        rw [this] at hb; cases hb
      · omega
    subst hl
    simp [row3]

end Go.Sim
