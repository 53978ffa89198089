/- A pure account of the values, floats and memory of a run, and how it stands to the model's (part 8: the evaluator of single operations is right: new blocks, slices, append). Conditions: none. -/
import Derived.Test.YtgjdkhocnnoimaaS5
import Derived.Laws.MakeOwn
import Derived.Laws.CopyRow
import Derived.Laws.AppendOwn

section
namespace Go.Sim
open Go

theorem nth_eq {α : Type} : ∀ (l : List α) (n : Nat), nth l n = l[n]?
  | [], n => by simp [nth]
  | x :: l, 0 => by simp [nth]
  | x :: l, n + 1 => by simpa [nth] using nth_eq l n

theorem setAt_eq {α : Type} : ∀ (l : List α) (n : Nat) (y : α), setAt l n y = l.set n y
  | [], n, y => by simp [setAt]
  | x :: l, 0, y => by simp [setAt]
  | x :: l, n + 1, y => by simp [setAt, setAt_eq l n y]

theorem takeN_eq {α : Type} : ∀ (n : Nat) (l r : List α), takeN n l = some r → r = l.take n ∧ n ≤ l.length
  | 0, l, r, h => by simp [takeN] at h; subst h; simp
  | n + 1, [], r, h => by simp [takeN] at h
  | n + 1, x :: l, r, h => by
    simp only [takeN, Option.map_eq_some_iff] at h
    obtain ⟨q, hq, rfl⟩ := h
    obtain ⟨rfl, h2⟩ := takeN_eq n l q hq
    exact ⟨by simp, by simpa using h2⟩

theorem dropN_eq {α : Type} : ∀ (n : Nat) (l : List α), dropN n l = l.drop n
  | 0, l => by simp [dropN]
  | n + 1, [] => by simp [dropN]
  | n + 1, x :: l => by simpa [dropN] using dropN_eq n l

theorem blkAt_eq {H : Heap} {b : Nat} {x : Blk} : blkAt H b = some x ↔ H[b]? = some (some x) := by
  unfold blkAt
  rw [nth_eq]
  constructor
  · intro h
    split at h
    · rename_i hx; rw [hx]; exact congrArg some h
    · cases h
  · intro h; rw [h]

theorem inb_lt {c : Cont} {r : Nat} {vc : List Prop} (h : c.inb r = some vc) (hv : AllP vc) : r < c.rows := by
  cases c with
  | vs l =>
    simp only [Cont.inb] at h
    cases hr : Nat.beq r 0 with
    | true => have := Nat.eq_of_beq_eq_true hr; subst this; simp [Cont.rows]
    | false => simp [hr] at h
  | _ => simp only [Cont.inb, Option.some.injEq] at h; subst h; exact hv.1

theorem add_eq (b o n : Nat) : (⟨b, o, none⟩ : Addr).add n = ⟨b, o + n, none⟩ := by unfold Addr.add; split <;> simp_all

section
variable {P : Program} {ι : List Place} {w : World}

theorem BlkOk.cell {p : Place} {b : Blk} (h : BlkOk ι w p b) {r j rb : Nat} (hr : r < b.c.rows) (hj : j < b.c.sz) (hb : p.blk = some rb) :
    ∃ v u, w.cell? ⟨rb, p.base + r * p.sz + j, none⟩ = some v ∧ (b.c.row r)[j]? = some u ∧ VR ι u v ∧ v.oneCell' = true := by
  obtain ⟨rb', cs, e, f, v, u, h1, h2, h3, h4, h5, h6⟩ := h.cells r j hr hj
  rw [hb] at h1
  simp only [Option.some.injEq] at h1
  subst h1
  exact ⟨v, u, by simp [World.cell?, h2, h3], h4, h5, h6⟩

theorem run_isAgg {t : TypeId} {b : Bool} (h : isAggT P t = some b) (w : World) : (isAgg t).run P w = .ok b w := by
  unfold isAggT at h
  cases hu : P.underlying t with
  | none => simp [hu] at h
  | some d =>
    cases d <;> simp [hu] at h <;> subst h <;> simp [isAgg, run_underlying hu]

theorem info_of_underlying {t : TypeId} {d : TypeDesc} (h : P.underlying t = some d) : ∃ i, P.info? t = some i := by
  unfold Program.underlying at h
  cases hi : P.info? t with
  | none => simp [hi] at h
  | some i => exact ⟨i, rfl⟩

theorem run_sizeOf' {t : TypeId} (h : (P.info? t).isSome = true) (w : World) : (sizeOf t).run P w = .ok (P.cellsOf t) w := by
  obtain ⟨i, hi⟩ := Option.isSome_iff_exists.1 h
  simp [sizeOf, typeInfo, hi, Program.cellsOf]

theorem isAgg_info {t : TypeId} {b : Bool} (h : isAggT P t = some b) : (P.info? t).isSome = true := by
  unfold isAggT at h
  cases hu : P.underlying t with
  | none => simp [hu] at h
  | some d => obtain ⟨i, hi⟩ := info_of_underlying hu; rw [hi]; rfl

/-- A list of cells, read. -/
theorem run_loadCells_vrs {H : Heap} (hrh : RH ι H w) {p : Place} {b : Nat} {blk : Blk} {rb r j n : Nat} (hp : ι[b]? = some p) (hH : H[b]? = some (some blk)) (hb : p.blk = some rb)
    (hr : r < blk.c.rows) (hn : j + n ≤ blk.c.sz) :
    ∃ l, (loadCells ⟨rb, p.base + r * p.sz + j, none⟩ n).run P w = .ok ⟨l⟩ w ∧ VRs ι (((blk.c.row r).drop j).take n) l ∧ (∀ v ∈ l, v.oneCell' = true) ∧ l.length = n := by
  have hbk := hrh.blk b p blk hp hH
  have hcell : ∀ i, i < n → ∃ v u, w.cell? ⟨rb, p.base + r * p.sz + j + i, none⟩ = some v ∧ (blk.c.row r)[j + i]? = some u ∧ VR ι u v ∧ v.oneCell' = true := by
    intro i hi
    obtain ⟨v, u, h1, h2, h3, h4⟩ := hbk.cell hr (show j + i < blk.c.sz by omega) hb
    exact ⟨v, u, by rw [Nat.add_assoc]; exact h1, h2, h3, h4⟩
  have hf := run_loadCells (P := P) w ⟨rb, p.base + r * p.sz + j, none⟩ n (fun i => (w.cell? ⟨rb, p.base + r * p.sz + j + i, none⟩).getD undef) (fun i hi => by
    obtain ⟨v, u, h1, _⟩ := hcell i hi
    rw [add_eq, h1]; rfl)
  refine ⟨_, hf, ?_, ?_, by simp⟩
  · refine VRs.of_get ?_ fun i u v hu hv => ?_
    · have := hbk.len r hr
      simp; omega
    · rw [List.getElem?_take] at hu
      split at hu
      · rename_i hi
        rw [List.getElem?_drop] at hu
        obtain ⟨v', u', h1, h2, h3, _⟩ := hcell i hi
        rw [h2] at hu; cases hu
        simp [hi, h1] at hv; subst hv
        exact h3
      · cases hu
  · intro v hv
    simp only [List.mem_map, List.mem_range] at hv
    obtain ⟨i, hi, rfl⟩ := hv
    obtain ⟨v', u', h1, _, _, h4⟩ := hcell i hi
    rw [h1]; exact h4

theorem evLoad_var {H : Heap} {t : TypeId} {x v x' : Value} {vc : List Prop} (h : evLoad P H t x = some (v, vc)) (hv : AllP vc) (hx : VR ι x x') (hrh : RH ι H w) :
    ∃ a v', x' = .pointer (some a) ∧ (loadVar t a).run P w = .ok v' w ∧ VR ι v v' := by
  unfold evLoad at h
  split at h
  · rename_i b r j
    cases hx with | ptr hp hb =>
    rename_i p rb
    split at h
    · rename_i blk agg hblk hagg
      rw [blkAt_eq] at hblk
      split at h
      · rename_i vc' hin
        have hsz := run_sizeOf' (isAgg_info hagg) w
        have hag := run_isAgg hagg w
        have hbk := hrh.blk b p blk hp hblk
        cases agg with
        | true =>
          simp only [cond_true] at h
          split at h
          · rename_i cs hcs
            simp only [Option.some.injEq, Prod.mk.injEq] at h
            obtain ⟨rfl, rfl⟩ := h
            have hr := inb_lt hin hv
            rw [dropN_eq] at hcs
            obtain ⟨rfl, hle⟩ := takeN_eq _ _ _ hcs
            have hlen := hbk.len r hr
            rcases Nat.lt_or_ge (P.cellsOf t) 1 with h0 | h0
            · -- no cell
              have h0 : P.cellsOf t = 0 := by omega
              refine ⟨_, .agg #[], rfl, ?_, ?_⟩
              · simp [loadVar, hag, hsz, h0, loadCells, loadCellsFrom]
              · rw [h0]; simp; exact .agg .nil
            · obtain ⟨l, h1, h2, _⟩ := run_loadCells_vrs (P := P) hrh hp hblk hb hr (n := P.cellsOf t) (j := j) (by simp at hle; omega)
              refine ⟨_, .agg ⟨l⟩, rfl, ?_, .agg h2⟩
              simp [loadVar, hag, hsz, h1]
          · cases h
        | false =>
          simp only [cond_false] at h
          split at h
          · rename_i u hu
            simp only [Option.some.injEq, Prod.mk.injEq] at h
            obtain ⟨rfl, rfl⟩ := h
            have hr := inb_lt hin hv
            rw [nth_eq] at hu
            have hlen := hbk.len r hr
            have hj := some_lt hu
            obtain ⟨v', u', h1, h2, h3, h4⟩ := hbk.cell hr (show j < blk.c.sz by omega) hb
            rw [h2] at hu; cases hu
            exact ⟨_, v', rfl, by simp [loadVar, hag, h1], h3⟩
          · cases h
      · cases h
    · cases h
  · cases h

theorem evLoad_sound {H : Heap} {t : TypeId} {x v x' : Value} {vc : List Prop} (h : evLoad P H t x = some (v, vc)) (hv : AllP vc) (hx : VR ι x x') (hrh : RH ι H w) :
    Quiet P (Instr.loadAt t x') ι w v := by
  obtain ⟨a, v', rfl, h1, h2⟩ := evLoad_var h hv hx hrh
  exact ⟨v', w, by simp [Instr.loadAt, Instr.sureAddr, h1], Drawn.refl w, h2⟩

/-! ### Addresses and parts -/

theorem rowAdd_eq (r n : Nat) : rowAdd r n = r + n := by
  unfold rowAdd
  cases h : Nat.beq r 0 with
  | true => have := Nat.eq_of_beq_eq_true h; subst this; simp
  | false => simp

theorem sizeOk_eq {t : TypeId} {n : Nat} (h : sizeOk P t n = true) : (P.info? t).isSome = true ∧ P.cellsOf t = n := by
  unfold sizeOk at h
  cases hi : P.info? t with
  | none => simp [hi] at h
  | some i => simp [hi] at h; exact ⟨rfl, by simp [Program.cellsOf, hi, h]⟩

theorem evIndexAddr_sound {H : Heap} {t : TypeId} {x ix v x' ix' : Value} {n : Nat} {vc : List Prop} (h : evIndexAddr P H t x ix n = some (v, vc)) (hv : AllP vc) (hx : VR ι x x') (hi : VR ι ix ix') (hrh : RH ι H w) :
    Quiet P (Instr.indexAt t x' ix') ι w v := by
  unfold evIndexAddr at h
  split at h
  · rename_i el b r l c k i hu
    cases hi
    split at h
    · rename_i blk hblk
      rw [blkAt_eq] at hblk
      cases hs : sizeOk P el blk.c.sz with
      | false => simp [hs] at h
      | true =>
        simp only [hs, cond_true, Option.some.injEq, Prod.mk.injEq] at h
        obtain ⟨rfl, rfl⟩ := h
        obtain ⟨rfl, hn, _⟩ := hv
        obtain ⟨hin, hc⟩ := sizeOk_eq hs
        cases hx with
        | slice hp hb hl hcap h0 =>
          rename_i c' p rb
          have hbk := hrh.blk b p blk hp hblk
          refine ⟨_, w, ?_, Drawn.refl w, .ptr hp hb⟩
          have e : p.base + r * p.sz + n * blk.c.sz = p.base + rowAdd r n * p.sz + 0 := by
            rw [rowAdd_eq, hbk.sz, Nat.add_mul]; omega
          rw [← e]
          simp [Instr.indexAt, asIntOf, run_underlying hu, hn, run_sizeOf' hin w, hc, add_eq]
        | slice0 => omega
    · cases h
  · cases h

theorem fieldOf_eq {t : TypeId} {f : Nat} {fd : Field} (h : fieldOf P t f = some fd) : ∃ fs, P.underlying t = some (.struct fs) ∧ fs[f]? = some fd := by
  unfold fieldOf at h
  split at h
  · rename_i fs hu
    rw [nth_eq] at h
    exact ⟨_, hu, by simpa using h⟩
  · cases h

theorem evFieldAddr_sound {t : TypeId} {x v x' : Value} {f : Nat} (h : evFieldAddr P t x f = some v) (hx : VR ι x x') : Quiet P (Instr.fieldAt t x' f) ι w v := by
  unfold evFieldAddr at h
  split at h
  · rename_i fd b r j hf
    obtain ⟨fs, hu, hfs⟩ := fieldOf_eq hf
    cases hx with | ptr hp hb =>
    rename_i p rb
    split at h
    · rename_i i hi
      cases hz : Nat.beq i.size 0 with
      | true => simp [hz] at h
      | false =>
        simp only [hz, cond_false, Option.some.injEq] at h
        subst h
        have hz : i.size ≠ 0 := by intro e; rw [e] at hz; cases hz
        refine ⟨_, w, ?_, Drawn.refl w, .ptr hp hb⟩
        simp [Instr.fieldAt, run_underlying hu, hfs, Instr.sureAddr, fieldPlace, sizeOf, typeInfo, hi, hz, add_eq, Nat.add_assoc]
    · cases h
  · cases h

theorem evField_sound {t : TypeId} {x v x' : Value} {f : Nat} (h : evField P t x f = some v) (hx : VR ι x x') : Quiet P (Instr.field t x' f) ι w v := by
  unfold evField at h
  split at h
  · rename_i fd cs hf
    obtain ⟨fs, hu, hfs⟩ := fieldOf_eq hf
    cases hx with | agg hx =>
    rename_i cs'
    split at h
    · rename_i hagg
      simp only [Option.map_eq_some_iff] at h
      obtain ⟨l, hl, rfl⟩ := h
      rw [dropN_eq] at hl
      obtain ⟨rfl, hle⟩ := takeN_eq _ _ _ hl
      refine ⟨.agg ⟨(cs'.drop fd.offset).take (P.cellsOf fd.type)⟩, w, ?_, Drawn.refl w, .agg ((hx.drop _).take _)⟩
      have he : (⟨cs'⟩ : Array Value).extract fd.offset (fd.offset + P.cellsOf fd.type) = ⟨(cs'.drop fd.offset).take (P.cellsOf fd.type)⟩ := by
        apply Array.ext'
        simp [List.extract]
      rw [← he]
      simp [Instr.field, run_underlying hu, hfs, asAgg, part, run_isAgg hagg w, run_sizeOf' (isAgg_info hagg) w]
    · rename_i hagg
      rw [nth_eq] at h
      obtain ⟨v', hv', hvr⟩ := hx.get _ _ h
      refine ⟨v', w, ?_, Drawn.refl w, hvr⟩
      simp [Instr.field, run_underlying hu, hfs, asAgg, part, run_isAgg hagg w, hv']
    · cases h
  · cases h

theorem evLen_sound {t : TypeId} {x v x' : Value} {ts : Array TypeId} {ty : TypeId} (h : evLen P t x = some v) (hx : VR ι x x') (ht : ts[0]? = some t) :
    Quiet P (Builtin.len_ ts ty #[x']) ι w v := by
  unfold evLen at h
  split at h
  · rename_i el a n c hu
    cases h
    cases hx <;> exact ⟨_, w, by simp [Builtin.len_, ht, run_underlying hu, goInt], Drawn.refl w, .int _ _⟩
  · rename_i s hu
    cases h
    cases hx
    exact ⟨_, w, by simp [Builtin.len_, ht, run_underlying hu, goInt], Drawn.refl w, .int _ _⟩
  · cases h

theorem fminmax_run (mx : Bool) (k : FloatKind) (x y a b : Nat) (hx : canon k x = a) (hy : canon k y = b) (ox : okW k x) (oy : okW k y) :
    Quiet P (if mx then Builtin.max2 (.float k x) (.float k y) else Builtin.min2 (.float k x) (.float k y)) ι w (.float k (fminmax mx k a b)) := by
  subst hx; subst hy
  unfold fminmax
  rw [order_canon]
  cases ho : k.format.order x y with
  | none =>
    obtain ⟨r, w', g1, g2, g3, g4⟩ := run_choose_nan (P := P) (a := x) (b := y) (m := mx) k (.nanMinMax k mx x y) w (.inr (.inr rfl))
    refine ⟨.float k r, w', ?_, g2, .float (canon_of_nan g4) g3⟩
    cases mx <;> simp [Builtin.max2, Builtin.min2, ho, g1, -run_choose]
  | some o =>
    have nx : isN k x = false := by
      cases h : isN k x with
      | false => rfl
      | true => unfold Ieee.Format.order at ho; rw [order_nan_l (show (k.format.read x).isNaN = true from h)] at ho; cases ho
    have ny : isN k y = false := by
      cases h : isN k y with
      | false => rfl
      | true => unfold Ieee.Format.order at ho; rw [order_nan_r _ (show (k.format.read y).isNaN = true from h)] at ho; cases ho
    have vx : VR ι (.float k (canon k x)) (.float k x) := .float rfl ox
    have vy : VR ι (.float k (canon k y)) (.float k y) := .float rfl oy
    rw [canon_of_not nx, canon_of_not ny] at *
    cases o with
    | lt => cases mx <;> simp [Builtin.max2, Builtin.min2, ho] <;> exact Quiet.pure (by assumption)
    | gt => cases mx <;> simp [Builtin.max2, Builtin.min2, ho] <;> exact Quiet.pure (by assumption)
    | eq =>
      cases hn : (k.decode x).neg <;> cases mx <;> simp [Builtin.max2, Builtin.min2, ho, hn] <;> exact Quiet.pure (by assumption)

theorem evMinMax_sound {mx : Bool} {x y v x' y' : Value} (h : evMinMax mx x y = some v) (hx : VR ι x x') (hy : VR ι y y') :
    Quiet P (if mx then Builtin.max2 x' y' else Builtin.min2 x' y') ι w v := by
  unfold evMinMax at h
  split at h
  · rename_i k a k' b
    cases hx; cases hy
    cases hk : sameI k k' with
    | false => simp [hk] at h
    | true =>
      simp only [hk, cond_true, Option.some.injEq] at h
      subst h
      cases mx <;> exact Quiet.pure (.int _ _)
  · rename_i k a k' b
    cases hx with | float h1 h2 =>
    cases hy with | float h3 h4 =>
    cases hk : sameF k k' with
    | false => simp [hk] at h
    | true =>
      obtain rfl := sameF_eq hk
      simp only [hk, cond_true, Option.some.injEq] at h
      subst h
      exact fminmax_run mx k _ _ _ _ h1 h3 h2 h4
  · cases h

end
end Go.Sim
end

section
namespace Go.Sim
open Go

/-- An operation that gives a value and turns memory as told. -/
def Runs (P : Program) (m : Sem Value) (ι : List Place) (H : Heap) (w : World) (v : Value) (H' : Heap) : Prop :=
  ∃ ι' v' w', m.run P w = .ok v' w' ∧ VR ι' v v' ∧ Ext ι H w ι' H' w'

theorem VR.one {ι : List Place} {v v' : Value} (h : VR ι v v') (h1 : one1 v = true) : v'.oneCell' = true := by
  cases h <;> first | rfl | cases h1

theorem VRs.ones {ι : List Place} : ∀ {l l' : List Value}, VRs ι l l' → allP one1 l = true → ∀ v ∈ l', v.oneCell' = true
  | _, _, .nil, _, v, hv => by cases hv
  | _, _, .cons h hs, h1, v, hv => by
    simp [allP] at h1
    rcases List.mem_cons.1 hv with rfl | hv
    · exact h.one h1.1
    · exact VRs.ones hs h1.2 v hv

theorem VR.cells {ι : List Place} {v v' : Value} (h : VR ι v v') : VRs ι (cellsV v) v'.cells.toList := by
  cases h
  case agg h => simpa [cellsV, Value.cells] using h
  all_goals exact .cons (by first | exact .bool _ | exact .int _ _ | exact .float ‹_› ‹_› | exact .complex ‹_› ‹_› ‹_› ‹_› | exact .string _ | exact .nilFunc | exact .nilp | exact .ptr ‹_› ‹_› | exact .nils | exact .slice ‹_› ‹_› ‹_› ‹_› ‹_› | exact .slice0 ‹_› | exact .func _ ‹_› ‹_› | exact .tuple ‹_›) .nil

theorem scsOf_eq : ∀ {us : List Value} {ss : List Sc}, scsOf us = some ss → us = ss.map Sc.v
  | [], ss, h => by simp [scsOf] at h; subst h; rfl
  | u :: us, ss, h => by
    simp only [scsOf] at h
    cases h1 : scOf u with
    | none => simp [h1] at h
    | some s => cases h2 : scsOf us with
      | none => simp [h1, h2] at h
      | some r =>
        simp [h1, h2] at h; subst h
        rw [scsOf_eq h2]
        simp
        cases u <;> simp [scOf] at h1 <;> subst h1 <;> rfl

theorem getElem?_splice {α : Type} (l : List α) (j : Nat) (us : List α) (h : j + us.length ≤ l.length) (i : Nat) :
    (splice l j us)[i]? = if j ≤ i ∧ i < j + us.length then us[i - j]? else l[i]? := by
  unfold splice
  have h1 : (l.take j).length = j := by simp; omega
  rcases Nat.lt_or_ge i j with hi | hi
  · rw [if_neg (by omega), List.append_assoc, List.getElem?_append_left (by omega), List.getElem?_take, if_pos hi]
  · rcases Nat.lt_or_ge i (j + us.length) with hi2 | hi2
    · rw [if_pos ⟨hi, hi2⟩, List.append_assoc, List.getElem?_append_right (by omega), h1, List.getElem?_append_left (by omega)]
    · rw [if_neg (by omega), List.getElem?_append_right (by simp; omega), List.getElem?_drop]
      congr 1; simp; omega

theorem length_splice {α : Type} (l : List α) (j : Nat) (us : List α) (h : j + us.length ≤ l.length) : (splice l j us).length = l.length := by
  unfold splice; simp; omega

theorem getD_set {α : Type} (xs : List α) (r i : Nat) (x d : α) (h : r < xs.length) : (xs.set r x).getD i d = if i = r then x else xs.getD i d := by
  simp only [List.getD_eq_getElem?_getD, List.getElem?_set]
  by_cases hi : i = r
  · subst hi; simp [h]
  · rw [if_neg (fun e => hi e.symm), if_neg hi]

/-- What a content is behind a store into row 'r' from column 'j' on. -/
theorem put_spec {c c' : Cont} {r j : Nat} {us : List Value} (h : c.put r j us = some c') (hr : r < c.rows) (hlen : ∀ r', r' < c.rows → (c.row r').length = c.sz) :
    c'.rows = c.rows ∧ c'.sz = c.sz ∧ j + us.length ≤ c.sz ∧ (∀ r', r' < c.rows → (c'.row r').length = c.sz) ∧
    ∀ r' j', r' < c.rows → (c'.row r')[j']? = if r' = r ∧ j ≤ j' ∧ j' < j + us.length then us[j' - j]? else (c.row r')[j']? := by
  cases c with
  | fl k xs =>
    simp only [Cont.put] at h
    split at h
    · rename_i k' x
      cases hk : sameF k k' && Nat.beq j 0 with
      | false => simp [hk] at h
      | true =>
        simp only [hk, cond_true, Option.some.injEq] at h
        subst h
        simp at hk
        obtain ⟨hk1, rfl⟩ := hk
        obtain rfl := sameF_eq hk1
        refine ⟨by simp [Cont.rows], rfl, by simp [Cont.sz], fun _ _ => rfl, fun r' j' hr' => ?_⟩
        simp only [Cont.row, getD_set _ _ _ _ _ hr]
        by_cases h1 : r' = r
        · subst h1
          cases j' with
          | zero => simp
          | succ n => simp
        · simp [h1]
    · cases h
  | it k xs =>
    simp only [Cont.put] at h
    split at h
    · rename_i k' x
      cases hk : sameI k k' && Nat.beq j 0 with
      | false => simp [hk] at h
      | true =>
        simp only [hk, cond_true, Option.some.injEq] at h
        subst h
        simp at hk
        obtain ⟨hk1, rfl⟩ := hk
        obtain rfl := sameI_eq hk1
        refine ⟨by simp [Cont.rows], rfl, by simp [Cont.sz], fun _ _ => rfl, fun r' j' hr' => ?_⟩
        simp only [Cont.row, getD_set _ _ _ _ _ hr]
        by_cases h1 : r' = r
        · subst h1
          cases j' with
          | zero => simp
          | succ n => simp
        · simp [h1]
    · cases h
  | cx k xs =>
    simp only [Cont.put] at h
    split at h
    · rename_i k' x y
      cases hk : sameF k k' && Nat.beq j 0 with
      | false => simp [hk] at h
      | true =>
        simp only [hk, cond_true, Option.some.injEq] at h
        subst h
        simp at hk
        obtain ⟨hk1, rfl⟩ := hk
        obtain rfl := sameF_eq hk1
        refine ⟨by simp [Cont.rows], rfl, by simp [Cont.sz], fun _ _ => rfl, fun r' j' hr' => ?_⟩
        simp only [Cont.row, getD_set _ _ _ _ _ hr]
        by_cases h1 : r' = r
        · subst h1
          cases j' with
          | zero => simp
          | succ n => simp
        · simp [h1]
    · cases h
  | vs l =>
    simp only [Cont.put] at h
    cases hk : Nat.ble (j + us.length) l.length with
    | false => simp [hk] at h
    | true =>
      simp only [hk, cond_true, Option.some.injEq] at h
      subst h
      have hle : j + us.length ≤ l.length := Nat.le_of_ble_eq_true hk
      refine ⟨rfl, by simp [Cont.sz, length_splice _ _ _ hle], by simpa [Cont.sz] using hle, fun r' _ => by simp [Cont.row, Cont.sz, length_splice _ _ _ hle], fun r' j' hr' => ?_⟩
      simp only [Cont.rows] at hr hr'
      have e : r' = r := by omega
      simp only [Cont.row, getElem?_splice _ _ _ hle, e, true_and]
  | fn n sz g =>
    simp only [Cont.put] at h
    split at h
    · rename_i ss hss
      obtain rfl := scsOf_eq hss
      cases hk : Nat.ble (j + ss.length) sz with
      | false => simp [hk] at h
      | true =>
        simp only [hk, cond_true, Option.some.injEq] at h
        subst h
        have hle : j + ss.length ≤ sz := Nat.le_of_ble_eq_true hk
        have hl := hlen r hr
        simp only [Cont.row, Cont.sz, List.length_map] at hl
        refine ⟨rfl, rfl, by simpa [Cont.sz] using hle, fun r' hr' => ?_, fun r' j' hr' => ?_⟩
        · have hl' := hlen r' hr'
          simp only [Cont.row, Cont.sz, List.length_map] at hl' ⊢
          cases hb : Nat.beq r' r with
          | true =>
            have := Nat.eq_of_beq_eq_true hb; subst this
            simp only [cond_true]; rw [length_splice _ _ _ (by omega)]; exact hl
          | false => simpa using hl'
        · simp only [Cont.row, List.getElem?_map, List.length_map]
          cases hb : Nat.beq r' r with
          | true =>
            have := Nat.eq_of_beq_eq_true hb; subst this
            simp only [cond_true, true_and]
            rw [getElem?_splice _ _ _ (by omega)]
            split <;> rfl
          | false =>
            have hne : r' ≠ r := fun e => by subst e; simp at hb
            simp [hne]
    · cases h

section
variable {P : Program} {ι : List Place} {w : World}

/-- An own block's cells turn, its shape stays. -/
theorem Ext.put {H : Heap} (hrh : RH ι H w) {b : Nat} {p : Place} {blk : Blk} {rb : Nat} {cs cs' : Array Value} {e : TypeId} {c' : Cont}
    (hp : ι[b]? = some p) (hH : H[b]? = some (some blk)) (ho : blk.own = true) (hb : p.blk = some rb) (hcs : w.heap[rb]? = some (.cells cs e (0, 0)))
    (hsize : cs'.size = cs.size) (hone : ∀ (j : Nat) (v : Value), cs'[j]? = some v → v.oneCell' = true) (hrows : c'.rows = blk.c.rows) (hsz : c'.sz = blk.c.sz)
    (hlen : ∀ r, r < blk.c.rows → (c'.row r).length = blk.c.sz)
    (hc : ∀ r j, r < blk.c.rows → j < blk.c.sz → ∃ v u, cs'[r * p.sz + j]? = some v ∧ (c'.row r)[j]? = some u ∧ VR ι u v) :
    Ext ι H w ι (H.set b (some ⟨true, c'⟩)) (w.setRow rb cs') := by
  have hbk := hrh.blk b p blk hp hH
  obtain ⟨hbase, hcap, cs0, e0, hcs0, hcsz, _⟩ := hbk.own ho rb hb
  rw [hcs] at hcs0; simp only [Option.some.injEq, Obj.cells.injEq] at hcs0
  obtain ⟨rfl, rfl, _⟩ := hcs0
  have hlt : b < H.length := some_lt hH
  refine ⟨⟨[], by simp⟩, ⟨by simp [hrh.len], ?_, ?_, ?_⟩, ?_, ?_⟩
  · intro i q c hq hcq
    rw [List.getElem?_set] at hcq
    split at hcq
    · rename_i hi
      subst hi
      simp at hcq; subst hcq
      rw [hp] at hq; cases hq
      refine ⟨by rw [hbk.sz]; exact hsz.symm, fun r hr => ?_, fun r j hr hj => ?_, fun _ rb' hrb' => ?_⟩
      · rw [hlen r (by rw [← hrows]; exact hr)]; exact hsz.symm
      · obtain ⟨v, u, h1, h2, h3⟩ := hc r j (by rw [← hrows]; exact hr) (by rw [← hsz]; exact hj)
        exact ⟨rb, cs', e, (0, 0), v, u, hb, setRow_heap w rb cs cs' e (0, 0) hcs, by rw [hbase]; simpa using h1, h2, h3, hone _ v h1⟩
      · rw [hb] at hrb'; cases hrb'
        exact ⟨hbase, by rw [hrows]; exact hcap, cs', e, setRow_heap w rb cs cs' e (0, 0) hcs, by rw [hsize, hcsz], hone⟩
    · rename_i hi
      refine (hrh.blk i q c hq hcq).of_heap (fun _ _ x => x) fun rb' hrb' _ => ?_
      refine setRow_other w rb rb' cs' fun e' => ?_
      subst e'
      exact hrh.sep b i p q blk c _ hp hH ho hq hcq hi hb hrb'
  · intro i j q r c d rb' hq hcq hoq hr hdr hij hrb'
    rw [List.getElem?_set] at hcq hdr
    have hown : ∀ i c, (if b = i then (if b < H.length then some (some (⟨true, c'⟩ : Blk)) else none) else H[i]?) = some (some c) → ∃ c0, H[i]? = some (some c0) ∧ (c.own = true → c0.own = true) := by
      intro i c h
      split at h
      · rename_i hi; subst hi; exact ⟨blk, hH, fun _ => ho⟩
      · exact ⟨c, h, id⟩
    obtain ⟨c0, hc0, ho0⟩ := hown i c hcq
    obtain ⟨d0, hd0, _⟩ := hown j d hdr
    exact hrh.sep i j q r c0 d0 rb' hq hc0 (ho0 hoq) hr hd0 hij hrb'
  · intro i q c rb' hq hcq hrb'
    rw [List.getElem?_set] at hcq
    simp only [setRow_size]
    split at hcq
    · rename_i hi; subst hi
      rw [hp] at hq; cases hq
      exact hrh.lt b p blk rb' hp hH hrb'
    · exact hrh.lt i q c rb' hq hcq hrb'
  · refine ⟨rfl, rfl, rfl, by simp, fun rb' hr hn => setRow_other w rb rb' cs' fun e' => ?_⟩
    subst e'
    exact hn ⟨b, p, blk, hp, hH, ho, hb⟩
  · rintro rb' ⟨i, q, c, hq, hcq, hoq, hrb'⟩
    left
    rw [List.getElem?_set] at hcq
    split at hcq
    · rename_i hi; subst hi
      rw [hp] at hq; cases hq
      exact ⟨b, p, blk, hp, hH, ho, hrb'⟩
    · exact ⟨i, q, c, hq, hcq, hoq, hrb'⟩

theorem idx_window {sz r r' j j' n : Nat} (hj' : j' < sz) (hn : j + n ≤ sz) : (r * sz + j ≤ r' * sz + j' ∧ r' * sz + j' < r * sz + j + n) ↔ (r' = r ∧ j ≤ j' ∧ j' < j + n) := by
  constructor
  · rintro ⟨h1, h2⟩
    rcases Nat.lt_trichotomy r' r with h | h | h
    · have := Nat.mul_le_mul_right sz (show r' + 1 ≤ r from h)
      rw [Nat.add_mul] at this
      omega
    · subst h; omega
    · have := Nat.mul_le_mul_right sz (show r + 1 ≤ r' from h)
      rw [Nat.add_mul] at this
      omega
  · rintro ⟨rfl, h1, h2⟩; omega

theorem evStore_sound {H H' : Heap} {t : TypeId} {x v x' v' : Value} {vc : List Prop} (h : evStore P H t x v = some (H', vc)) (hv : AllP vc) (hx : VR ι x x') (hvv : VR ι v v') (hrh : RH ι H w) :
    ∃ w', (Instr.storeAt t x' v').run P w = .ok () w' ∧ Ext ι H w ι H' w' := by
  unfold evStore at h
  split at h
  · rename_i b r j
    cases hx with | ptr hp hb =>
    rename_i p rb
    split at h
    · rename_i blk hblk
      rw [blkAt_eq] at hblk
      cases hcnd : (blk.own && allP one1 (cellsV v) && Nat.beq (cellsV v).length (P.cellsOf t) && (P.info? t).isSome) with
      | false => simp [hcnd] at h
      | true =>
        simp only [hcnd, cond_true] at h
        simp only [Bool.and_eq_true] at hcnd
        obtain ⟨⟨⟨ho, hone⟩, hn⟩, hinfo⟩ := hcnd
        have hn := Nat.eq_of_beq_eq_true hn
        split at h
        · rename_i vc' c hin hput
          simp only [Option.some.injEq, Prod.mk.injEq] at h
          obtain ⟨rfl, rfl⟩ := h
          have hr := inb_lt hin hv
          have hbk := hrh.blk b p blk hp hblk
          obtain ⟨hbase, hcap, cs, e, hcs, hcsz, hcone⟩ := hbk.own ho rb hb
          obtain ⟨s1, s2, s3, s4, s5⟩ := put_spec hput hr hbk.len
          have hcells := hvv.cells
          have hlen := hcells.length
          have hreal := hcells.ones hone
          have hsz := hbk.sz
          have hfit : r * p.sz + j + v'.cells.toList.length ≤ cs.size := by
            rw [← hlen, hcsz]
            have h1 := Nat.mul_le_mul_right p.sz (show r + 1 ≤ p.cap by omega)
            rw [Nat.add_mul] at h1
            omega
          have hst := run_storeCells_at P rb (r * p.sz + j) e v'.cells.toList 0 cs w hcs (by simpa using hfit) hreal
          simp only [Nat.add_zero] at hst
          refine ⟨w.setRow rb (splice cs.toList (r * p.sz + j) v'.cells.toList).toArray, ?_, ?_⟩
          · have hcl : v'.cells.size = P.cellsOf t := by rw [← hn, hlen]; simp
            simp [Instr.storeAt, Instr.sureAddr, storeVar, run_sizeOf' hinfo w, hcl, hbase]
            exact hst
          · rw [setAt_eq]
            refine Ext.put hrh hp hblk ho hb hcs ?_ ?_ s1 s2 s4 ?_
            · simp only [List.size_toArray]
              rw [length_splice _ _ _ (by simpa using hfit)]
              simp
            · intro i u hu
              rw [List.getElem?_toArray, getElem?_splice _ _ _ (by simpa using hfit)] at hu
              split at hu
              · exact hreal u (List.mem_of_getElem? hu)
              · exact hcone i u (by simpa using hu)
            · intro r' j' hr' hj'
              rw [List.getElem?_toArray, getElem?_splice _ _ _ (by simpa using hfit), s5 r' j' hr', ← hlen]
              have hw := idx_window (sz := p.sz) (r := r) (r' := r') (j := j) (j' := j') (n := (cellsV v).length) (by omega) (by omega)
              by_cases hin2 : r' = r ∧ j ≤ j' ∧ j' < j + (cellsV v).length
              · rw [if_pos (hw.2 hin2), if_pos hin2]
                obtain ⟨rfl, g1, g2⟩ := hin2
                obtain ⟨u', hu', hvr⟩ := hcells.get (j' - j) _ (List.getElem?_eq_getElem (show j' - j < (cellsV v).length by omega))
                refine ⟨u', _, ?_, List.getElem?_eq_getElem (show j' - j < (cellsV v).length by omega), hvr⟩
                rw [← hu']; congr 1; omega
              · rw [if_neg (fun hh => hin2 (hw.1 hh)), if_neg hin2]
                obtain ⟨rb', cs2, e2, f2, v2, u2, q1, q2, q3, q4, q5, _⟩ := hbk.cells r' j' hr' hj'
                rw [hb] at q1; cases q1
                rw [hcs] at q2; cases q2
                rw [hbase] at q3
                exact ⟨v2, u2, by simpa using q3, q4, q5⟩
        · cases h
    · cases h
  · cases h

end
end Go.Sim
end

section
namespace Go.Sim
open Go

section
variable {P : Program} {ι : List Place} {w : World}

theorem getElem?_new {α : Type} (l : List α) (x : α) (n : Nat) (h : l.length = n) : (l ++ [x])[n]? = some x := by subst h; simp

/-- A variable in memory of its own. -/
theorem box_sound {H : Heap} (hrh : RH ι H w) {v v' : Value} (hv : VR ι v v') (h1 : allP one1 (cellsV v) = true) (t : TypeId) :
    Runs P (Instr.box t v') ι H w (.pointer (some ⟨H.length, 0, some 0⟩)) (H ++ [some ⟨true, .vs (cellsV v)⟩]) := by
  have hc := hv.cells
  have hl := hc.length
  have hext := Ext.alloc hrh (.vs (cellsV v)) v'.cells t 1 (by simp [Cont.rows]) (by simp [Cont.sz, hl]) (fun _ _ => rfl)
    (fun j u hu => hc.ones h1 u (List.mem_of_getElem? (by simpa using hu)))
    (fun r j hr hj => by
      simp only [Cont.rows] at hr
      obtain rfl : r = 0 := by omega
      simp only [Cont.sz] at hj
      obtain ⟨u', hu', hvr⟩ := hc.get j _ (List.getElem?_eq_getElem hj)
      exact ⟨u', _, by simpa using hu', List.getElem?_eq_getElem hj, hvr⟩)
  refine ⟨_, _, _, rfl, ?_, hext⟩
  have := VR.ptr (ι := ι ++ [⟨some w.heap.size, 0, (Cont.vs (cellsV v)).sz, 1⟩]) (b := H.length) (i := 0) (j := 0) (getElem?_new _ _ _ hrh.len) rfl
  simpa using this

theorem alloc_sound {H : Heap} (hrh : RH ι H w) {t : TypeId} {i : TypeInfo} {z : Value} (hi : P.info? t = some i) (hz : i.zero = some z) (hp : plain z = true) (h1 : allP one1 (cellsV z) = true) :
    Runs P (Instr.alloc t true (.tuple #[])) ι H w (.pointer (some ⟨H.length, 0, some 0⟩)) (H ++ [some ⟨true, .vs (cellsV z)⟩]) := by
  obtain ⟨ι', v', w', h1', h2, h3⟩ := box_sound (P := P) hrh (vr_plain (ι := ι) hp) h1 t
  refine ⟨ι', v', w', ?_, h2, h3⟩
  rw [← h1']
  simp [Instr.alloc, Instr.box, zeroValue, typeInfo, hi, hz]

theorem zeros_spec {z : Value} {n : Nat} {c : Cont} (h : zeros z n = some c) : c.rows = n ∧ c.sz = (cellsV z).length ∧ (∀ r, r < n → c.row r = cellsV z) ∧ allP plain1 (cellsV z) = true ∧ allP one1 (cellsV z) = true := by
  cases z <;> simp only [zeros] at h <;> try (cases h; done)
  case int k x =>
    simp only [Option.some.injEq] at h; subst h
    exact ⟨by simp [Cont.rows], rfl, fun r hr => by simp [Cont.row, cellsV, List.getD, hr], rfl, rfl⟩
  case float k x =>
    cases hp : plain1 (.float k x) with
    | false => simp [hp] at h
    | true =>
      simp only [hp, cond_true, Option.some.injEq] at h; subst h
      exact ⟨by simp [Cont.rows], rfl, fun r hr => by simp [Cont.row, cellsV, List.getD, hr], by simp [cellsV, allP, hp], rfl⟩
  case complex k x y =>
    cases hp : plain1 (.complex k x y) with
    | false => simp [hp] at h
    | true =>
      simp only [hp, cond_true, Option.some.injEq] at h; subst h
      exact ⟨by simp [Cont.rows], rfl, fun r hr => by simp [Cont.row, cellsV, List.getD, hr], by simp [cellsV, allP, hp], rfl⟩
  case agg cs =>
    obtain ⟨cs⟩ := cs
    simp only at h
    cases hs : scsOf cs with
    | none => simp [hs] at h
    | some ss =>
      cases hp : allP plain1 cs with
      | false => simp [hs, hp] at h
      | true =>
        simp only [hs, hp, cond_true, Option.some.injEq] at h; subst h
        have e := scsOf_eq hs
        refine ⟨rfl, by simp [Cont.sz, cellsV, e], fun r hr => by simp [Cont.row, cellsV, e], by simpa [cellsV] using hp, ?_⟩
        simp only [cellsV, e]
        clear hp hs e
        induction ss with
        | nil => rfl
        | cons s ss ih => simp only [List.map_cons, allP, Bool.and_eq_true]; exact ⟨by cases s <;> rfl, ih⟩

theorem cellsV_eq (z : Value) : cellsV z = z.cells.toList := by
  cases z with
  | agg cs => obtain ⟨cs⟩ := cs; rfl
  | _ => rfl

theorem evMake_sound {H H' : Heap} (hrh : RH ι H w) {t : TypeId} {l c l' c' v : Value} {n : Nat} {vc : List Prop} (h : evMake P H t l c n = some (v, H', vc)) (hv : AllP vc) (hl : VR ι l l') (hc : VR ι c c') :
    Runs P (Instr.makeSlice t l' c') ι H w v H' := by
  unfold evMake at h
  split at h
  · rename_i el kl a kc b hu
    cases hl; cases hc
    split at h
    · rename_i i hi
      split at h
      · rename_i z hz
        split at h
        · rename_i ct hct
          cases hcnd : Nat.beq i.size (cellsV z).length && Nat.blt 0 i.size with
          | false => simp [hcnd] at h
          | true =>
            simp only [hcnd, cond_true, Option.some.injEq, Prod.mk.injEq] at h
            obtain ⟨rfl, rfl, rfl⟩ := h
            simp only [Bool.and_eq_true] at hcnd
            have hsz := Nat.eq_of_beq_eq_true hcnd.1
            have hpos : 0 < i.size := Nat.le_of_ble_eq_true hcnd.2
            obtain ⟨ha, hab, hby, hb1, _⟩ := hv
            subst ha
            obtain ⟨z1, z2, z3, z4, z5⟩ := zeros_spec hct
            have hm := run_make (P := P) w t el i z hu hi hz kl kc (n : Int) b (by omega) hab (by rw [Int.mul_comm]; omega) (by omega)
            obtain ⟨m, rfl⟩ := Int.eq_ofNat_of_zero_le (show 0 ≤ b by omega)
            simp only [Int.toNat_natCast] at hm hab
            have hnm : n ≤ m := by omega
            have hcells : ∀ j, j < m * i.size → (madeCells z.cells (m * i.size))[j]? = (cellsV z)[j % i.size]? := by
              intro j hj
              have h1 : z.cells.size = i.size := by rw [hsz, cellsV_eq]; simp
              have h2 : j % i.size < i.size := Nat.mod_lt _ hpos
              simp [madeCells, hj, h1, cellsV_eq]
              rw [getElem!_pos z.cells (j % i.size) (by omega)]
              exact (Array.getElem?_eq_getElem (by omega)).symm
            have hext := Ext.alloc hrh ct (madeCells z.cells (m * i.size)) el m (by omega) (by rw [size_madeCells, z2, hsz]) (fun r hr => by rw [z3 r (by omega), z2])
              (fun j u hu => by
                have hj : j < m * i.size := by
                  rcases Nat.lt_or_ge j (m * i.size) with h' | h'
                  · exact h'
                  · rw [Array.getElem?_eq_none (by rw [size_madeCells]; exact h')] at hu; cases hu
                rw [hcells j hj] at hu
                exact (vrs_plain1 (ι := ι) z4).ones z5 u (List.mem_of_getElem? hu))
              (fun r j hr hj => by
                rw [z2, ← hsz] at hj ⊢
                have hlt : r * i.size + j < m * i.size := by
                  have := Nat.mul_le_mul_right i.size (show r + 1 ≤ m by omega)
                  rw [Nat.add_mul] at this; omega
                have hmod : (r * i.size + j) % i.size = j := by rw [Nat.mul_comm, Nat.mul_add_mod, Nat.mod_eq_of_lt hj]
                have hjl : j < (cellsV z).length := by omega
                refine ⟨(cellsV z)[j], (cellsV z)[j], ?_, ?_, ?_⟩
                · rw [hcells _ hlt, hmod]; exact List.getElem?_eq_getElem hjl
                · rw [z3 r (by omega)]; exact List.getElem?_eq_getElem hjl
                · obtain ⟨u', hu', hvr⟩ := (vrs_plain1 (ι := ι) z4).get j _ (List.getElem?_eq_getElem hjl)
                  rw [List.getElem?_eq_getElem hjl] at hu'; cases hu'
                  exact hvr)
            refine ⟨_, _, _, hm, ?_, hext⟩
            have := VR.slice (ι := ι ++ [⟨some w.heap.size, 0, ct.sz, m⟩]) (b := H.length) (i := 0) (l := n) (c := 1) (c' := m) (getElem?_new _ _ _ hrh.len) rfl hnm (by simp) (by omega)
            simpa using this
        · cases h
      · cases h
    · cases h
  · cases h

/-! ### Parts put together -/

theorem foldl_set_list (off : Nat) : ∀ (l : List Value) (k : Nat) (cells : Array Value), off + k + l.length ≤ cells.size →
    ((l.zipIdx k).foldl (fun (cs : Array Value) (p : Value × Nat) => cs.setIfInBounds (off + p.2) p.1) cells).toList = splice cells.toList (off + k) l
  | [], k, cells, _ => by simp [splice]
  | v :: l, k, cells, h => by
    simp only [List.length_cons] at h
    simp only [List.zipIdx_cons, List.foldl_cons]
    rw [foldl_set_list off l (k + 1) _ (by simp; omega)]
    unfold splice
    have e := list_seg_step cells.toList (off + k) v l (by simp; omega)
    simp only [Array.toList_setIfInBounds]
    rw [show off + (k + 1) = off + k + 1 from by omega, e]
    simp

theorem fill_step (place : Nat → Option (Nat × Nat)) (cells : Array Value) (i : Nat) (v : Value) (rest : List (Nat × Value)) (off size : Nat) (hp : place i = some (off, size)) (hs : v.cells.size = size)
    (hle : off + size ≤ cells.size) : Instr.fill place cells ((i, v) :: rest) = Instr.fill place (splice cells.toList off v.cells.toList).toArray rest := by
  have e : v.cells.zipIdx.foldl (fun cs (c, j) => cs.setIfInBounds (off + j) c) cells = (splice cells.toList off v.cells.toList).toArray := by
    apply Array.ext'
    have := foldl_set_list off v.cells.toList 0 cells (by simp; omega)
    simp only [Nat.add_zero] at this
    rw [← this]
    rw [← Array.foldl_toList]
    simp [Array.toList_zipIdx]
  simp only [Instr.fill, hp]
  rw [if_neg (by simp; omega), e]

theorem evParts_sound {e : Env} {ρ : Operand → Value} (henv : EnvOk ι e ρ) : ∀ {ps : List (Nat × Operand)} {l : List (Nat × Value)}, evParts e ps = some l →
    ∃ l', ps.map (fun p => (p.1, ρ p.2)) = l' ∧ l'.map (·.1) = l.map (·.1) ∧ VRs ι (l.map (·.2)) (l'.map (·.2))
  | [], l, h => by cases h; exact ⟨[], rfl, rfl, .nil⟩
  | (i, x) :: ps, l, h => by
    simp only [evParts] at h
    cases h1 : evx e x with
    | none => simp [h1] at h
    | some v => cases h2 : evParts e ps with
      | none => simp [h1, h2] at h
      | some r =>
        simp [h1, h2] at h; subst h
        obtain ⟨l', e1, e2, e3⟩ := evParts_sound henv h2
        exact ⟨(i, ρ x) :: l', by simp [← e1], by simp [e2], by simpa using VRs.cons (henv x v h1) e3⟩

theorem VRs.splice {l l' us us' : List Value} (h : VRs ι l l') (g : VRs ι us us') (j : Nat) : VRs ι (Sim.splice l j us) (Sim.splice l' j us') := by
  unfold Sim.splice
  rw [g.length]
  exact ((h.take j).append g).append (h.drop _)

theorem fillV_sound {fs : List Field} (places : List (Nat × Nat)) (hpl : ∀ (i : Nat) (fd : Field), fs[i]? = some fd → (P.info? fd.type).isSome = true → places[i]? = some (fd.offset, P.cellsOf fd.type)) :
    ∀ {parts parts' : List (Nat × Value)} {cells r : List Value} {cells' : Array Value}, fillV P fs cells parts = some r → parts'.map (·.1) = parts.map (·.1) → VRs ι (parts.map (·.2)) (parts'.map (·.2)) →
      VRs ι cells cells'.toList → ∃ r', Instr.fill (places.toArray[·]?) cells' parts' = some r' ∧ VRs ι r r'.toList
  | [], [], cells, r, cells', h, _, _, hc => by simp [fillV] at h; subst h; exact ⟨cells', rfl, hc⟩
  | [], _ :: _, _, _, _, _, he, _, _ => by simp at he
  | _ :: _, [], _, _, _, _, he, _, _ => by simp at he
  | (i, v) :: parts, (i', v') :: parts', cells, r, cells', h, he, hv, hc => by
    simp only [List.map_cons, List.cons.injEq] at he
    obtain ⟨rfl, he⟩ := he
    cases hv with | cons hv hvs =>
    simp only [fillV] at h
    split at h
    · rename_i fd hfd
      cases hcnd : (Nat.beq (cellsV v).length (P.cellsOf fd.type) && Nat.ble (fd.offset + (cellsV v).length) cells.length && (P.info? fd.type).isSome) with
      | false => simp [hcnd] at h
      | true =>
        simp only [hcnd, cond_true] at h
        simp only [Bool.and_eq_true] at hcnd
        have h1 := Nat.eq_of_beq_eq_true hcnd.1.1
        have h2 := Nat.le_of_ble_eq_true hcnd.1.2
        rw [nth_eq] at hfd
        have hplace := hpl _ fd hfd hcnd.2
        have hcl := hv.cells.length
        have hlc := hc.length
        have hstep := fill_step (places.toArray[·]?) cells' i' v' parts' fd.offset (P.cellsOf fd.type) (by simpa using hplace) (by rw [← h1, hcl]; simp) (by simp at hlc; omega)
        rw [hstep]
        exact fillV_sound places hpl h he hvs (by simpa using hc.splice hv.cells fd.offset)
    · cases h

theorem evBuild_sound {t : TypeId} {parts parts' : List (Nat × Value)} {v : Value} (h : evBuild P t parts = some v) (he : parts'.map (·.1) = parts.map (·.1)) (hv : VRs ι (parts.map (·.2)) (parts'.map (·.2))) :
    Quiet P (Instr.build t parts'.toArray) ι w v := by
  unfold evBuild at h
  split at h
  · rename_i fs i hu hi
    split at h
    · rename_i z hz
      cases hcnd : (allP plain1 z && evBuild.allInfo P fs) with
      | false => simp [hcnd] at h
      | true =>
        simp only [hcnd, cond_true, Option.map_eq_some_iff] at h
        obtain ⟨r, hr, rfl⟩ := h
        simp only [Bool.and_eq_true] at hcnd
        have hpl : ∀ fs : List Field, evBuild.allInfo P fs = true → ∃ places, fs.mapM (fun f => (P.info? f.type).map fun i => (f.offset, i.size)) = some places ∧
            ∀ (i : Nat) (fd : Field), fs[i]? = some fd → (P.info? fd.type).isSome = true → places[i]? = some (fd.offset, P.cellsOf fd.type) := by
          intro fs
          induction fs with
          | nil => intro _; exact ⟨[], rfl, fun i fd hh => by simp at hh⟩
          | cons fd fs ih =>
            intro hall
            simp only [evBuild.allInfo, Bool.and_eq_true] at hall
            obtain ⟨pl, e1, e2⟩ := ih hall.2
            obtain ⟨ii, hii⟩ := Option.isSome_iff_exists.1 hall.1
            refine ⟨(fd.offset, ii.size) :: pl, by simp [List.mapM_cons, hii, e1], fun k fd' hk hs => ?_⟩
            cases k with
            | zero => simp at hk; subst hk; simp [Program.cellsOf, hii]
            | succ k => simpa using e2 k fd' (by simpa using hk) hs
        obtain ⟨places, e1, e2⟩ := hpl fs hcnd.2
        obtain ⟨r', e3, e4⟩ := fillV_sound places e2 (cells' := ⟨z⟩) hr he hv (vrs_plain1 hcnd.1)
        have hb : P.built t parts'.toArray.toList = some r' := by
          unfold Program.built
          rw [hi, hu]
          simp only [hz]
          simp [e1]
          simpa [Value.cells] using e3
        refine ⟨_, w, run_build w t parts'.toArray r' hb, Drawn.refl w, ?_⟩
        obtain ⟨r'⟩ := r'
        exact .agg e4
    · cases h
  · cases h

end
end Go.Sim
end
