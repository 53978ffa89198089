/- A pure account of the values, floats and memory of a run, and how it stands to the model's (part 6: the evaluator of single operations is right: reading and writing memory). Conditions: none. -/
import Derived.Test.YtgjdkhocnnoimaaS5
import Derived.Laws.MakeOwn
import Derived.Laws.CopyRow
namespace Go.Sim
open Go

theorem nth_eq {α : Type} : ∀ (l : List α) (n : Nat), nth l n = l[n]?
  | [], n => by simp [nth]
  | x :: l, 0 => by simp [nth]
  | x :: l, n + 1 => by simpa [nth] using nth_eq l n

theorem setAt_eq {α : Type} : ∀ (l : List α) (n : Nat) (y : α), setAt l n y = l.set n y
  | [], n, y => by simp [setAt]
  | x :: l, 0, y => by simp [setAt]
  | x :: l, n + 1, y => by simp [setAt, setAt_eq l n y]

theorem takeN_eq {α : Type} : ∀ (n : Nat) (l r : List α), takeN n l = some r → r = l.take n ∧ n ≤ l.length
  | 0, l, r, h => by simp [takeN] at h; subst h; simp
  | n + 1, [], r, h => by simp [takeN] at h
  | n + 1, x :: l, r, h => by
    simp only [takeN, Option.map_eq_some_iff] at h
    obtain ⟨q, hq, rfl⟩ := h
    obtain ⟨rfl, h2⟩ := takeN_eq n l q hq
    exact ⟨by simp, by simpa using h2⟩

theorem dropN_eq {α : Type} : ∀ (n : Nat) (l : List α), dropN n l = l.drop n
  | 0, l => by simp [dropN]
  | n + 1, [] => by simp [dropN]
  | n + 1, x :: l => by simpa [dropN] using dropN_eq n l

theorem blkAt_eq {H : Heap} {b : Nat} {x : Blk} : blkAt H b = some x ↔ H[b]? = some (some x) := by
  unfold blkAt
  rw [nth_eq]
  constructor
  · intro h
    split at h
    · rename_i hx; rw [hx]; exact congrArg some h
    · cases h
  · intro h; rw [h]

theorem inb_lt {c : Cont} {r : Nat} {vc : List Prop} (h : c.inb r = some vc) (hv : AllP vc) : r < c.rows := by
  cases c with
  | vs l =>
    simp only [Cont.inb] at h
    cases hr : Nat.beq r 0 with
    | true => have := Nat.eq_of_beq_eq_true hr; subst this; simp [Cont.rows]
    | false => simp [hr] at h
  | _ => simp only [Cont.inb, Option.some.injEq] at h; subst h; exact hv.1

theorem add_eq (b o n : Nat) : (⟨b, o, none⟩ : Addr).add n = ⟨b, o + n, none⟩ := by unfold Addr.add; split <;> simp_all

section
variable {P : Program} {ι : List Place} {w : World}

theorem BlkOk.cell {p : Place} {b : Blk} (h : BlkOk ι w p b) {r j rb : Nat} (hr : r < b.c.rows) (hj : j < b.c.sz) (hb : p.blk = some rb) :
    ∃ v u, w.cell? ⟨rb, p.base + r * p.sz + j, none⟩ = some v ∧ (b.c.row r)[j]? = some u ∧ VR ι u v ∧ v.oneCell' = true := by
  obtain ⟨rb', cs, e, f, v, u, h1, h2, h3, h4, h5, h6⟩ := h.cells r j hr hj
  rw [hb] at h1
  simp only [Option.some.injEq] at h1
  subst h1
  exact ⟨v, u, by simp [World.cell?, h2, h3], h4, h5, h6⟩

theorem run_isAgg {t : TypeId} {b : Bool} (h : isAggT P t = some b) (w : World) : (isAgg t).run P w = .ok b w := by
  unfold isAggT at h
  cases hu : P.underlying t with
  | none => simp [hu] at h
  | some d =>
    cases d <;> simp [hu] at h <;> subst h <;> simp [isAgg, run_underlying hu]

theorem info_of_underlying {t : TypeId} {d : TypeDesc} (h : P.underlying t = some d) : ∃ i, P.info? t = some i := by
  unfold Program.underlying at h
  cases hi : P.info? t with
  | none => simp [hi] at h
  | some i => exact ⟨i, rfl⟩

theorem run_sizeOf' {t : TypeId} (h : (P.info? t).isSome = true) (w : World) : (sizeOf t).run P w = .ok (P.cellsOf t) w := by
  obtain ⟨i, hi⟩ := Option.isSome_iff_exists.1 h
  simp [sizeOf, typeInfo, hi, Program.cellsOf]

theorem isAgg_info {t : TypeId} {b : Bool} (h : isAggT P t = some b) : (P.info? t).isSome = true := by
  unfold isAggT at h
  cases hu : P.underlying t with
  | none => simp [hu] at h
  | some d => obtain ⟨i, hi⟩ := info_of_underlying hu; rw [hi]; rfl

/-- A list of cells, read. -/
theorem run_loadCells_vrs {H : Heap} (hrh : RH ι H w) {p : Place} {b : Nat} {blk : Blk} {rb r j n : Nat} (hp : ι[b]? = some p) (hH : H[b]? = some (some blk)) (hb : p.blk = some rb)
    (hr : r < blk.c.rows) (hn : j + n ≤ blk.c.sz) :
    ∃ l, (loadCells ⟨rb, p.base + r * p.sz + j, none⟩ n).run P w = .ok ⟨l⟩ w ∧ VRs ι (((blk.c.row r).drop j).take n) l ∧ (∀ v ∈ l, v.oneCell' = true) ∧ l.length = n := by
  have hbk := hrh.blk b p blk hp hH
  have hcell : ∀ i, i < n → ∃ v u, w.cell? ⟨rb, p.base + r * p.sz + j + i, none⟩ = some v ∧ (blk.c.row r)[j + i]? = some u ∧ VR ι u v ∧ v.oneCell' = true := by
    intro i hi
    obtain ⟨v, u, h1, h2, h3, h4⟩ := hbk.cell hr (show j + i < blk.c.sz by omega) hb
    exact ⟨v, u, by rw [Nat.add_assoc]; exact h1, h2, h3, h4⟩
  have hf := run_loadCells (P := P) w ⟨rb, p.base + r * p.sz + j, none⟩ n (fun i => (w.cell? ⟨rb, p.base + r * p.sz + j + i, none⟩).getD undef) (fun i hi => by
    obtain ⟨v, u, h1, _⟩ := hcell i hi
    rw [add_eq, h1]; rfl)
  refine ⟨_, hf, ?_, ?_, by simp⟩
  · refine VRs.of_get ?_ fun i u v hu hv => ?_
    · have := hbk.len r hr
      simp; omega
    · rw [List.getElem?_take] at hu
      split at hu
      · rename_i hi
        rw [List.getElem?_drop] at hu
        obtain ⟨v', u', h1, h2, h3, _⟩ := hcell i hi
        rw [h2] at hu; cases hu
        simp [hi, h1] at hv; subst hv
        exact h3
      · cases hu
  · intro v hv
    simp only [List.mem_map, List.mem_range] at hv
    obtain ⟨i, hi, rfl⟩ := hv
    obtain ⟨v', u', h1, _, _, h4⟩ := hcell i hi
    rw [h1]; exact h4

theorem evLoad_var {H : Heap} {t : TypeId} {x v x' : Value} {vc : List Prop} (h : evLoad P H t x = some (v, vc)) (hv : AllP vc) (hx : VR ι x x') (hrh : RH ι H w) :
    ∃ a v', x' = .pointer (some a) ∧ (loadVar t a).run P w = .ok v' w ∧ VR ι v v' := by
  unfold evLoad at h
  split at h
  · rename_i b r j
    cases hx with | ptr hp hb =>
    rename_i p rb
    split at h
    · rename_i blk agg hblk hagg
      rw [blkAt_eq] at hblk
      split at h
      · rename_i vc' hin
        have hsz := run_sizeOf' (isAgg_info hagg) w
        have hag := run_isAgg hagg w
        have hbk := hrh.blk b p blk hp hblk
        cases agg with
        | true =>
          simp only [cond_true] at h
          split at h
          · rename_i cs hcs
            simp only [Option.some.injEq, Prod.mk.injEq] at h
            obtain ⟨rfl, rfl⟩ := h
            have hr := inb_lt hin hv
            rw [dropN_eq] at hcs
            obtain ⟨rfl, hle⟩ := takeN_eq _ _ _ hcs
            have hlen := hbk.len r hr
            rcases Nat.lt_or_ge (P.cellsOf t) 1 with h0 | h0
            · -- no cell
              have h0 : P.cellsOf t = 0 := by omega
              refine ⟨_, .agg #[], rfl, ?_, ?_⟩
              · simp [loadVar, hag, hsz, h0, loadCells, loadCellsFrom]
              · rw [h0]; simp; exact .agg .nil
            · obtain ⟨l, h1, h2, _⟩ := run_loadCells_vrs (P := P) hrh hp hblk hb hr (n := P.cellsOf t) (j := j) (by simp at hle; omega)
              refine ⟨_, .agg ⟨l⟩, rfl, ?_, .agg h2⟩
              simp [loadVar, hag, hsz, h1]
          · cases h
        | false =>
          simp only [cond_false] at h
          split at h
          · rename_i u hu
            simp only [Option.some.injEq, Prod.mk.injEq] at h
            obtain ⟨rfl, rfl⟩ := h
            have hr := inb_lt hin hv
            rw [nth_eq] at hu
            have hlen := hbk.len r hr
            have hj := some_lt hu
            obtain ⟨v', u', h1, h2, h3, h4⟩ := hbk.cell hr (show j < blk.c.sz by omega) hb
            rw [h2] at hu; cases hu
            exact ⟨_, v', rfl, by simp [loadVar, hag, h1], h3⟩
          · cases h
      · cases h
    · cases h
  · cases h

theorem evLoad_sound {H : Heap} {t : TypeId} {x v x' : Value} {vc : List Prop} (h : evLoad P H t x = some (v, vc)) (hv : AllP vc) (hx : VR ι x x') (hrh : RH ι H w) :
    Quiet P (Instr.loadAt t x') ι w v := by
  obtain ⟨a, v', rfl, h1, h2⟩ := evLoad_var h hv hx hrh
  exact ⟨v', w, by simp [Instr.loadAt, Instr.sureAddr, h1], Drawn.refl w, h2⟩

/-! ### Addresses and parts -/

theorem rowAdd_eq (r n : Nat) : rowAdd r n = r + n := by
  unfold rowAdd
  cases h : Nat.beq r 0 with
  | true => have := Nat.eq_of_beq_eq_true h; subst this; simp
  | false => simp

theorem sizeOk_eq {t : TypeId} {n : Nat} (h : sizeOk P t n = true) : (P.info? t).isSome = true ∧ P.cellsOf t = n := by
  unfold sizeOk at h
  cases hi : P.info? t with
  | none => simp [hi] at h
  | some i => simp [hi] at h; exact ⟨rfl, by simp [Program.cellsOf, hi, h]⟩

theorem evIndexAddr_sound {H : Heap} {t : TypeId} {x ix v x' ix' : Value} {n : Nat} {vc : List Prop} (h : evIndexAddr P H t x ix n = some (v, vc)) (hv : AllP vc) (hx : VR ι x x') (hi : VR ι ix ix') (hrh : RH ι H w) :
    Quiet P (Instr.indexAt t x' ix') ι w v := by
  unfold evIndexAddr at h
  split at h
  · rename_i el b r l c k i hu
    cases hi
    split at h
    · rename_i blk hblk
      rw [blkAt_eq] at hblk
      cases hs : sizeOk P el blk.c.sz with
      | false => simp [hs] at h
      | true =>
        simp only [hs, cond_true] at h
        obtain ⟨hin, hc⟩ := sizeOk_eq hs
        split at h
        · simp only [Option.some.injEq, Prod.mk.injEq] at h
          obtain ⟨rfl, rfl⟩ := h
          obtain ⟨rfl, hn, _⟩ := hv
          cases hx with
          | slice hp hb hl hcap h0 =>
            rename_i c' p rb
            have hbk := hrh.blk b p blk hp hblk
            refine ⟨_, w, ?_, Drawn.refl w, .ptr hp hb⟩
            have e : p.base + r * p.sz + n * blk.c.sz = p.base + rowAdd r n * p.sz + 0 := by
              rw [rowAdd_eq, hbk.sz, Nat.add_mul]; omega
            rw [← e]
            simp [Instr.indexAt, asIntOf, run_underlying hu, hn, run_sizeOf' hin w, hc, add_eq]
          | slice0 => omega
        · rename_i v0 vs hvs
          split at h
          · rename_i r' k hk
            simp only [Option.some.injEq, Prod.mk.injEq] at h
            obtain ⟨rfl, rfl⟩ := h
            rw [nth_eq] at hk
            obtain ⟨m, rfl, hrr, hml⟩ : ∃ m : Nat, i = (m : Int) ∧ r + m = r' ∧ m < l := by
              cases hr : Nat.beq r 0 with
              | true =>
                have := Nat.eq_of_beq_eq_true hr; subst this
                simp only [hr, cond_true] at hv
                exact ⟨r', hv.1, by omega, hv.2.1⟩
              | false =>
                simp only [hr, cond_false] at hv
                obtain ⟨a1, a2, a3, _⟩ := hv
                exact ⟨r' - r, by omega, by omega, a3⟩
            cases hx with
            | slice hp hb hl hcap h0 =>
              rename_i c' p rb
              have hbk := hrh.blk b p blk hp hblk
              obtain ⟨q, q1, q2, q3, q4⟩ := hbk.via r' k (by rw [hvs]; exact List.mem_of_getElem? hk)
              refine ⟨_, w, ?_, Drawn.refl w, .ptr q1 (q2.trans hb)⟩
              have e : p.base + r * p.sz + m * blk.c.sz = q.base + 0 * q.sz + 0 := by
                rw [q3, ← hrr, hbk.sz, Nat.add_mul]; omega
              rw [← e]
              simp [Instr.indexAt, asIntOf, run_underlying hu, hml, run_sizeOf' hin w, hc, add_eq]
            | slice0 => omega
          · cases h
    · cases h
  · cases h

theorem fieldOf_eq {t : TypeId} {f : Nat} {fd : Field} (h : fieldOf P t f = some fd) : ∃ fs, P.underlying t = some (.struct fs) ∧ fs[f]? = some fd := by
  unfold fieldOf at h
  split at h
  · rename_i fs hu
    rw [nth_eq] at h
    exact ⟨_, hu, by simpa using h⟩
  · cases h

theorem evFieldAddr_sound {t : TypeId} {x v x' : Value} {f : Nat} (h : evFieldAddr P t x f = some v) (hx : VR ι x x') : Quiet P (Instr.fieldAt t x' f) ι w v := by
  unfold evFieldAddr at h
  split at h
  · rename_i fd b r j hf
    obtain ⟨fs, hu, hfs⟩ := fieldOf_eq hf
    cases hx with | ptr hp hb =>
    rename_i p rb
    split at h
    · rename_i i hi
      cases hz : Nat.beq i.size 0 with
      | true => simp [hz] at h
      | false =>
        simp only [hz, cond_false, Option.some.injEq] at h
        subst h
        have hz : i.size ≠ 0 := by intro e; rw [e] at hz; cases hz
        refine ⟨_, w, ?_, Drawn.refl w, .ptr hp hb⟩
        simp [Instr.fieldAt, run_underlying hu, hfs, Instr.sureAddr, fieldPlace, sizeOf, typeInfo, hi, hz, add_eq, Nat.add_assoc]
    · cases h
  · cases h

theorem evField_sound {t : TypeId} {x v x' : Value} {f : Nat} (h : evField P t x f = some v) (hx : VR ι x x') : Quiet P (Instr.field t x' f) ι w v := by
  unfold evField at h
  split at h
  · rename_i fd cs hf
    obtain ⟨fs, hu, hfs⟩ := fieldOf_eq hf
    cases hx with | agg hx =>
    rename_i cs'
    split at h
    · rename_i hagg
      simp only [Option.map_eq_some_iff] at h
      obtain ⟨l, hl, rfl⟩ := h
      rw [dropN_eq] at hl
      obtain ⟨rfl, hle⟩ := takeN_eq _ _ _ hl
      refine ⟨.agg ⟨(cs'.drop fd.offset).take (P.cellsOf fd.type)⟩, w, ?_, Drawn.refl w, .agg ((hx.drop _).take _)⟩
      have he : (⟨cs'⟩ : Array Value).extract fd.offset (fd.offset + P.cellsOf fd.type) = ⟨(cs'.drop fd.offset).take (P.cellsOf fd.type)⟩ := by
        apply Array.ext'
        simp [List.extract]
      rw [← he]
      simp [Instr.field, run_underlying hu, hfs, asAgg, part, run_isAgg hagg w, run_sizeOf' (isAgg_info hagg) w]
    · rename_i hagg
      rw [nth_eq] at h
      obtain ⟨v', hv', hvr⟩ := hx.get _ _ h
      refine ⟨v', w, ?_, Drawn.refl w, hvr⟩
      simp [Instr.field, run_underlying hu, hfs, asAgg, part, run_isAgg hagg w, hv']
    · cases h
  · cases h

theorem evLen_sound {t : TypeId} {x v x' : Value} {ts : Array TypeId} {ty : TypeId} (h : evLen P t x = some v) (hx : VR ι x x') (ht : ts[0]? = some t) :
    Quiet P (Builtin.len_ ts ty #[x']) ι w v := by
  unfold evLen at h
  split at h
  · rename_i el a n c hu
    cases h
    cases hx <;> exact ⟨_, w, by simp [Builtin.len_, ht, run_underlying hu, goInt], Drawn.refl w, .int _ _⟩
  · rename_i s hu
    cases h
    cases hx
    exact ⟨_, w, by simp [Builtin.len_, ht, run_underlying hu, goInt], Drawn.refl w, .int _ _⟩
  · cases h

theorem fminmax_run (mx : Bool) (k : FloatKind) (x y a b : Nat) (hx : canon k x = a) (hy : canon k y = b) (ox : okW k x) (oy : okW k y) :
    Quiet P (if mx then Builtin.max2 (.float k x) (.float k y) else Builtin.min2 (.float k x) (.float k y)) ι w (.float k (fminmax mx k a b)) := by
  subst hx; subst hy
  unfold fminmax
  rw [order_canon]
  cases ho : k.format.order x y with
  | none =>
    obtain ⟨r, w', g1, g2, g3, g4⟩ := run_choose_nan (P := P) (a := x) (b := y) (m := mx) k (.nanMinMax k mx x y) w (.inr (.inr rfl))
    refine ⟨.float k r, w', ?_, g2, .float (canon_of_nan g4) g3⟩
    cases mx <;> simp [Builtin.max2, Builtin.min2, ho, g1, -run_choose]
  | some o =>
    have nx : isN k x = false := by
      cases h : isN k x with
      | false => rfl
      | true => unfold Ieee.Format.order at ho; rw [order_nan_l (show (k.format.read x).isNaN = true from h)] at ho; cases ho
    have ny : isN k y = false := by
      cases h : isN k y with
      | false => rfl
      | true => unfold Ieee.Format.order at ho; rw [order_nan_r _ (show (k.format.read y).isNaN = true from h)] at ho; cases ho
    have vx : VR ι (.float k (canon k x)) (.float k x) := .float rfl ox
    have vy : VR ι (.float k (canon k y)) (.float k y) := .float rfl oy
    rw [canon_of_not nx, canon_of_not ny] at *
    cases o with
    | lt => cases mx <;> simp [Builtin.max2, Builtin.min2, ho] <;> exact Quiet.pure (by assumption)
    | gt => cases mx <;> simp [Builtin.max2, Builtin.min2, ho] <;> exact Quiet.pure (by assumption)
    | eq =>
      cases hn : (k.decode x).neg <;> cases mx <;> simp [Builtin.max2, Builtin.min2, ho, hn] <;> exact Quiet.pure (by assumption)

theorem evMinMax_sound {mx : Bool} {x y v x' y' : Value} (h : evMinMax mx x y = some v) (hx : VR ι x x') (hy : VR ι y y') :
    Quiet P (if mx then Builtin.max2 x' y' else Builtin.min2 x' y') ι w v := by
  unfold evMinMax at h
  split at h
  · rename_i k a k' b
    cases hx; cases hy
    cases hk : sameI k k' with
    | false => simp [hk] at h
    | true =>
      simp only [hk, cond_true, Option.some.injEq] at h
      subst h
      cases mx <;> exact Quiet.pure (.int _ _)
  · rename_i k a k' b
    cases hx with | float h1 h2 =>
    cases hy with | float h3 h4 =>
    cases hk : sameF k k' with
    | false => simp [hk] at h
    | true =>
      obtain rfl := sameF_eq hk
      simp only [hk, cond_true, Option.some.injEq] at h
      subst h
      exact fminmax_run mx k _ _ _ _ h1 h3 h2 h4
  · cases h

end
end Go.Sim
