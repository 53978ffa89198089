/- A pure account of the values, floats and memory of a run, and how it stands to the model's (part 25: rows that hold slices are opened to be read). Conditions: none. -/
import Derived.Test.YtgjdkhocnnoimaaS19
namespace Go.Sim
open Go

def scL : List HC → Option (List Value)
  | [] => some []
  | .c s :: l => (scL l).map (s.v :: ·)
  | .r _ :: _ => none

/-- A row's values, its slice being block 'k'; what lies there. -/
def openL (k : Nat) : List HC → Option (List Value × List Nat)
  | [] => none
  | .r xs :: l => (scL l).map fun vs => (.slice (some ⟨k, 0, none⟩) xs.length 1 :: vs, xs)
  | .c s :: l => (openL k l).map fun p => (s.v :: p.1, p.2)

/-- Row 'r' of block 'b' is spoken of as two blocks of its own: the row, and what its slice leads to. -/
def open1 (H : Heap) (b r : Nat) : Option (Heap × List Prop) :=
  match blkAt H b with
  | some ⟨false, .nst n sz g o⟩ => match openL (H.length + 1) (g r) with
    | some (vs, xs) => some (setAt H b (some ⟨false, .nst n sz g (o ++ [(r, H.length)])⟩) ++ [some ⟨false, .vs vs⟩] ++ [some ⟨false, .fl .f32 xs⟩], [r < n])
    | none => none
  | _ => none

def openAll (H : Heap) : List (Nat × Nat) → Option (Heap × List Prop)
  | [] => some (H, [])
  | (b, r) :: l => match open1 H b r with
    | some (H1, vc) => match openAll H1 l with
      | some (H2, vc2) => some (H2, vc ++ vc2)
      | none => none
    | none => none

theorem scL_spec : ∀ {l : List HC} {vs : List Value}, scL l = some vs → vs.length = l.length ∧ ∀ (j : Nat) (h : HC), l[j]? = some h → ∃ s, h = .c s ∧ vs[j]? = some s.v
  | [], vs, e => by simp only [scL, Option.some.injEq] at e; subst e; exact ⟨rfl, fun j h hj => by simp at hj⟩
  | .c s :: l, vs, e => by
    simp only [scL, Option.map_eq_some_iff] at e
    obtain ⟨r, hr, rfl⟩ := e
    obtain ⟨g1, g2⟩ := scL_spec hr
    refine ⟨by simp [g1], fun j h hj => ?_⟩
    cases j with
    | zero => simp at hj; subst hj; exact ⟨s, rfl, rfl⟩
    | succ j => simpa using g2 j h (by simpa using hj)
  | .r _ :: _, vs, e => by simp [scL] at e

theorem openL_spec {k : Nat} : ∀ {l : List HC} {vs : List Value} {xs : List Nat}, openL k l = some (vs, xs) → vs.length = l.length ∧ ∃ j0 : Nat, l[j0]? = some (HC.r xs) ∧
    ∀ (j : Nat) (h : HC), l[j]? = some h → (j = j0 ∧ vs[j]? = some (.slice (some ⟨k, 0, none⟩) xs.length 1)) ∨ ∃ s, h = .c s ∧ vs[j]? = some s.v
  | [], vs, xs, e => by simp [openL] at e
  | .r ys :: l, vs, xs, e => by
    simp only [openL, Option.map_eq_some_iff, Prod.mk.injEq] at e
    obtain ⟨r, hr, rfl, rfl⟩ := e
    obtain ⟨g1, g2⟩ := scL_spec hr
    refine ⟨by simp [g1], 0, rfl, fun j h hj => ?_⟩
    cases j with
    | zero => exact .inl ⟨rfl, rfl⟩
    | succ j => exact .inr (by simpa using g2 j h (by simpa using hj))
  | .c s :: l, vs, xs, e => by
    simp only [openL, Option.map_eq_some_iff] at e
    obtain ⟨⟨r, ys⟩, hr, e⟩ := e
    simp only [Prod.mk.injEq] at e
    obtain ⟨rfl, rfl⟩ := e
    obtain ⟨g1, j0, g2, g3⟩ := openL_spec hr
    refine ⟨by simp [g1], j0 + 1, by simpa using g2, fun j h hj => ?_⟩
    cases j with
    | zero => simp at hj; subst hj; exact .inr ⟨s, rfl, rfl⟩
    | succ j =>
      rcases g3 j h (by simpa using hj) with ⟨rfl, q⟩ | ⟨s', q⟩
      · exact .inl ⟨rfl, by simpa using q⟩
      · exact .inr ⟨s', by simpa using q⟩

theorem open1_sound {ι : List Place} {H H2 : Heap} {w : World} {b r : Nat} {vc : List Prop} (hrh : RH ι H w) (h : open1 H b r = some (H2, vc)) (hv : AllP vc) : ∃ l, Ext ι H w (ι ++ l) H2 w := by
  unfold open1 at h
  split at h
  · rename_i n sz g o hblk
    rw [blkAt_eq] at hblk
    split at h
    · rename_i vs xs hop
      simp only [Option.some.injEq, Prod.mk.injEq] at h
      obtain ⟨rfl, rfl⟩ := h
      have hr : r < n := hv.1
      obtain ⟨l1, j0, l2, l3⟩ := openL_spec hop
      have hil := hrh.len
      have hbl : b < ι.length := by rw [hil]; exact some_lt hblk
      obtain ⟨p, hp⟩ : ∃ p, ι[b]? = some p := ⟨_, List.getElem?_eq_getElem hbl⟩
      have hbk := hrh.blk b p _ hp hblk
      have hgl : (g r).length = sz := by simpa [Cont.row, Cont.sz] using hbk.len r hr
      have hpsz : p.sz = sz := hbk.sz
      have hj0 : j0 < sz := by have := some_lt l2; omega
      obtain ⟨rb, cs, e, f, v0, u0, q1, q2, q3, q4, q5, q6⟩ := hbk.cells r j0 hr hj0
      have hcell : HidCell ι H w b r j0 false xs v0 := ⟨p, _, n, sz, g, o, rb, cs, e, f, hp, hblk, rfl, rfl, hr, l2, q1, q2, q3⟩
      obtain ⟨q0, k1, k2, k3⟩ := hrh.hid.ok _ _ _ _ _ _ hcell
      rw [setAt_eq]
      have hsub : Sub ι (ι ++ [⟨p.blk, p.base + r * p.sz, p.sz, 1⟩] ++ [q0]) := fun i x hx => getElem?_snoc_lt (getElem?_snoc_lt hx)
      have at1 : (ι ++ [⟨p.blk, p.base + r * p.sz, p.sz, 1⟩] ++ [q0])[H.length]? = some ⟨p.blk, p.base + r * p.sz, p.sz, 1⟩ := by rw [← hil]; exact getElem?_snoc_lt (by simp)
      have at2 : (ι ++ [⟨p.blk, p.base + r * p.sz, p.sz, 1⟩] ++ [q0])[H.length + 1]? = some q0 := by
        have : H.length + 1 = (ι ++ [(⟨p.blk, p.base + r * p.sz, p.sz, 1⟩ : Place)]).length := by simp [hil]
        rw [this]; simp
      -- what is spoken of
      have cls : ∀ (i : Nat) (q : Place) (c : Blk), (ι ++ [⟨p.blk, p.base + r * p.sz, p.sz, 1⟩] ++ [q0])[i]? = some q → (H.set b (some ⟨false, .nst n sz g (o ++ [(r, H.length)])⟩) ++ [some ⟨false, .vs vs⟩] ++ [some ⟨false, .fl .f32 xs⟩])[i]? = some (some c) →
          (∃ c0, ι[i]? = some q ∧ H[i]? = some (some c0) ∧ c.own = c0.own ∧ (c = c0 ∨ (i = b ∧ c = ⟨false, .nst n sz g (o ++ [(r, H.length)])⟩ ∧ c0 = ⟨false, .nst n sz g o⟩))) ∨
          (q = ⟨p.blk, p.base + r * p.sz, p.sz, 1⟩ ∧ c = ⟨false, .vs vs⟩) ∨ (q = q0 ∧ c = ⟨false, .fl .f32 xs⟩) := by
        intro i q c hq hc
        rcases getElem?_snoc hq with ⟨hqa, hi⟩ | ⟨hi, rfl⟩
        · rcases getElem?_snoc hc with ⟨hca, _⟩ | ⟨hi2, _⟩
          · rcases getElem?_snoc hqa with ⟨hqb, hib⟩ | ⟨hib, rfl⟩
            · rcases getElem?_snoc hca with ⟨hcb, _⟩ | ⟨hi2, _⟩
              · rw [List.getElem?_set] at hcb
                by_cases hbi : b = i
                · rw [if_pos hbi, if_pos (by omega)] at hcb
                  simp only [Option.some.injEq] at hcb
                  rw [← hbi] at hqb ⊢
                  exact .inl ⟨_, hqb, hblk, by rw [← hcb], .inr ⟨rfl, hcb.symm, rfl⟩⟩
                · rw [if_neg hbi] at hcb
                  exact .inl ⟨c, hqb, hcb, rfl, .inl rfl⟩
              · simp at hi2; omega
            · rcases getElem?_snoc hca with ⟨hcb, hi2⟩ | ⟨_, hcb⟩
              · simp at hi2; omega
              · simp at hcb; exact .inr (.inl ⟨rfl, hcb⟩)
          · simp at hi hi2; omega
        · rcases getElem?_snoc hc with ⟨hc, hi2⟩ | ⟨_, hc⟩
          · simp at hi hi2; omega
          · simp at hc; exact .inr (.inr ⟨rfl, hc⟩)
      have clsH : ∀ i r' j own xs' v, HidCell (ι ++ [⟨p.blk, p.base + r * p.sz, p.sz, 1⟩] ++ [q0]) (H.set b (some ⟨false, .nst n sz g (o ++ [(r, H.length)])⟩) ++ [some ⟨false, .vs vs⟩] ++ [some ⟨false, .fl .f32 xs⟩]) w i r' j own xs' v → HidCell ι H w i r' j own xs' v := by
        rintro i r' j own xs' v ⟨q, c, n', sz', g', o', rb', cs', e', f', z1, z2, z3, z4, z5⟩
        rcases cls i q c z1 z2 with ⟨c0, y1, y2, y3, y4⟩ | ⟨_, rfl⟩ | ⟨_, rfl⟩
        · rcases y4 with rfl | ⟨rfl, rfl, rfl⟩
          · exact ⟨q, c, n', sz', g', o', rb', cs', e', f', y1, y2, z3, z4, z5⟩
          · simp only [Cont.nst.injEq] at z4
            obtain ⟨rfl, rfl, rfl, rfl⟩ := z4
            exact ⟨q, _, n, sz, g, o, rb', cs', e', f', y1, y2, z3, rfl, z5⟩
        · cases z4
        · cases z4
      have hfree : ∀ {u : Value} {v : Value} {ι' : List Place}, Free u → VR ι u v → VR ι' u v := fun hf hvr => hvr.free hf
      have hnewown : ∀ (i : Nat) (q : Place) (c : Blk), (ι ++ [⟨p.blk, p.base + r * p.sz, p.sz, 1⟩] ++ [q0])[i]? = some q → (H.set b (some ⟨false, .nst n sz g (o ++ [(r, H.length)])⟩) ++ [some ⟨false, .vs vs⟩] ++ [some ⟨false, .fl .f32 xs⟩])[i]? = some (some c) → c.own = true → ι[i]? = some q ∧ H[i]? = some (some c) ∧ i ≠ b := by
        intro i q c hq hc ho
        rcases cls i q c hq hc with ⟨c0, y1, y2, y3, y4⟩ | ⟨_, rfl⟩ | ⟨_, rfl⟩
        · rcases y4 with rfl | ⟨rfl, rfl, rfl⟩
          · exact ⟨y1, y2, fun e' => by subst e'; rw [hblk] at y2; cases y2; cases ho⟩
          · cases ho
        · cases ho
        · cases ho
      have hq0 : ∀ rb', q0.blk = some rb' → Inner v0 rb' := k3
      have key : Ext ι H w (ι ++ [⟨p.blk, p.base + r * p.sz, p.sz, 1⟩] ++ [q0]) (H.set b (some ⟨false, .nst n sz g (o ++ [(r, H.length)])⟩) ++ [some ⟨false, .vs vs⟩] ++ [some ⟨false, .fl .f32 xs⟩]) w := by
        refine ⟨⟨_, List.append_assoc _ _ _⟩, ⟨by simp [hil], ?_, ?_, ?_, ?_⟩, Fr.refl _ _, ?_⟩
        · intro i q c hq hc
          rcases cls i q c hq hc with ⟨c0, y1, y2, y3, y4⟩ | ⟨rfl, rfl⟩ | ⟨rfl, rfl⟩
          · have hb0 := (hrh.blk i q c0 y1 y2).of_heap (w' := w) hsub fun _ _ _ => rfl
            rcases y4 with rfl | ⟨rfl, rfl, rfl⟩
            · exact hb0
            · refine ⟨hb0.sz, hb0.len, hb0.cells, fun ho => (by cases ho), fun r' k hk => ?_⟩
              rw [hp] at y1; cases y1
              simp only [Cont.vias, List.mem_append, List.mem_singleton, Prod.mk.injEq] at hk
              rcases hk with hk | ⟨rfl, rfl⟩
              · exact hb0.via r' k hk
              · exact ⟨_, at1, rfl, rfl, rfl⟩
          · refine ⟨?_, fun r' hr' => rfl, fun r' j hr' hj => ?_, fun ho => (by cases ho), fun r' k hk => (by cases hk)⟩
            · show p.sz = vs.length
              omega
            · simp only [Cont.rows] at hr'
              obtain rfl : r' = 0 := by omega
              simp only [Cont.sz] at hj
              have hjs : j < sz := by omega
              obtain ⟨rb', cs', e', f', v, u, z1, z2, z3, z4, z5, z6⟩ := hbk.cells r j hr hjs
              rw [q1] at z1; cases z1
              rw [q2] at z2; cases z2
              have hgj : (g r)[j]? = some ((g r)[j]'(by omega)) := List.getElem?_eq_getElem (by omega)
              have hu : u = ((g r)[j]'(by omega)).v := by
                simp only [Cont.row, List.getElem?_map, hgj, Option.map_some, Option.some.injEq] at z4
                exact z4.symm
              refine ⟨rb, cs, e, f, v, _, q1, q2, by simpa using z3, List.getElem?_eq_getElem hj, ?_, z6⟩
              rcases l3 j _ hgj with ⟨rfl, y⟩ | ⟨s, y1, y2⟩
              · have : vs[j]'hj = .slice (some ⟨H.length + 1, 0, none⟩) xs.length 1 := by
                  rw [List.getElem?_eq_getElem hj] at y; simpa using y
                rw [q3] at z3
                cases z3
                rw [this]
                generalize xs.length = l at k2
                cases k2 with
                | slice g1 g2 g3 g4 g5 =>
                  simp at g1; subst g1
                  exact .slice at2 g2 g3 g4 g5
                | slice0 hx => exact .slice0 hx
              · have : vs[j]'hj = s.v := by
                  rw [List.getElem?_eq_getElem hj] at y2; simpa using y2
                rw [this]
                rw [hu, y1] at z5
                exact hfree (free_sc s) z5
          · exact blkOk_floats k1
        · intro i j q q' c d rb' hq hc ho hq' hd hij hrb'
          obtain ⟨y1, y2, y3⟩ := hnewown i q c hq hc ho
          rcases cls j q' d hq' hd with ⟨d0, z1, z2, z3, z4⟩ | ⟨rfl, rfl⟩ | ⟨rfl, rfl⟩
          · exact hrh.sep i j q q' c d0 rb' y1 y2 ho z1 z2 hij hrb'
          · exact hrh.sep i b q p c _ rb' y1 y2 ho hp hblk y3 hrb'
          · intro hqb
            exact hrh.hid.s1 i q c rb' y1 y2 ho hrb' _ _ _ _ _ _ hcell (hq0 rb' hqb)
        · intro i q c rb' hq hc hrb'
          rcases cls i q c hq hc with ⟨c0, y1, y2, y3, y4⟩ | ⟨rfl, rfl⟩ | ⟨rfl, rfl⟩
          · exact hrh.lt i q c0 rb' y1 y2 hrb'
          · exact hrh.lt b p _ rb' hp hblk hrb'
          · exact hrh.hid.lt _ _ _ _ _ _ _ hcell (hq0 rb' hrb')
        · refine ⟨fun i r' j own xs' v hc => hrh.hid.ok _ _ _ _ _ _ (clsH _ _ _ _ _ _ hc), fun i r' j own xs' v rb' hc hi => hrh.hid.lt _ _ _ _ _ _ _ (clsH _ _ _ _ _ _ hc) hi, ?_, ?_, fun i r' j xs' v rb' hc hi i' r'' j' own' xs'' v' hc' hi' => hrh.hid.s3 _ _ _ _ _ _ (clsH _ _ _ _ _ _ hc) hi _ _ _ _ _ _ (clsH _ _ _ _ _ _ hc') hi'⟩
          · intro i q c rb' hq hc ho hrb' i' r' j own xs' v hcc hi
            obtain ⟨y1, y2, y3⟩ := hnewown i q c hq hc ho
            exact hrh.hid.s1 i q c rb' y1 y2 ho hrb' _ _ _ _ _ _ (clsH _ _ _ _ _ _ hcc) hi
          · intro i r' j xs' v rb' hcc hi i' q c hq hc hrb'
            have hcc' := clsH _ _ _ _ _ _ hcc
            rcases cls i' q c hq hc with ⟨c0, y1, y2, y3, y4⟩ | ⟨rfl, rfl⟩ | ⟨rfl, rfl⟩
            · exact hrh.hid.s2 _ _ _ _ _ _ hcc' hi i' q c0 y1 y2 hrb'
            · exact hrh.hid.s2 _ _ _ _ _ _ hcc' hi b p _ hp hblk hrb'
            · obtain ⟨rfl, rfl, rfl⟩ := hrh.hid.s3 _ _ _ _ _ _ hcc' hi _ _ _ _ _ _ hcell (hq0 rb' hrb')
              obtain ⟨q', c', n', sz', g', o', rb2, cs', e', f', z1, z2, z3, z4, z5⟩ := hcc'
              rw [hblk] at z2; cases z2; cases z3
        · rintro rb' (⟨i, q, c, hq, hc, ho, hrb'⟩ | ⟨i, r', j, xs', v, hc, hi⟩)
          · obtain ⟨y1, y2, y3⟩ := hnewown i q c hq hc ho
            exact .inl (.inl ⟨i, q, c, y1, y2, ho, hrb'⟩)
          · exact .inl (.inr ⟨i, r', j, xs', v, clsH _ _ _ _ _ _ hc, hi⟩)
      refine ⟨[⟨p.blk, p.base + r * p.sz, p.sz, 1⟩] ++ [q0], ?_⟩
      rw [← List.append_assoc]
      exact key
    · cases h
  · cases h

theorem openAll_sound {w : World} : ∀ {rs : List (Nat × Nat)} {ι : List Place} {H H2 : Heap} {vc : List Prop}, RH ι H w → openAll H rs = some (H2, vc) → AllP vc → ∃ l, Ext ι H w (ι ++ l) H2 w
  | [], ι, H, H2, vc, hrh, h, hv => by
    simp only [openAll, Option.some.injEq, Prod.mk.injEq] at h
    obtain ⟨rfl, rfl⟩ := h
    exact ⟨[], by rw [List.append_nil]; exact Ext.refl hrh⟩
  | (b, r) :: rs, ι, H, H2, vc, hrh, h, hv => by
    simp only [openAll] at h
    split at h
    · rename_i H1 vc1 h1
      split at h
      · rename_i H3 vc2 h2
        simp only [Option.some.injEq, Prod.mk.injEq] at h
        obtain ⟨rfl, rfl⟩ := h
        obtain ⟨v1, v2⟩ := allP_app hv
        obtain ⟨l, hl⟩ := open1_sound hrh h1 v1
        obtain ⟨l', hl'⟩ := openAll_sound hl.rh h2 v2
        exact ⟨l ++ l', by rw [← List.append_assoc]; exact hl.trans hl'⟩
      · cases h
    · cases h

section
variable {P : Program} {N n0 : Nat}

theorem openAll_rel {ι : List Place} {s : St} {a : Act} {w : World} {rs : List (Nat × Nat)} {H2 : Heap} {vc : List Prop} (hr : Rel N ι s a w) (hn : n0 ≤ s.hp.length) (h : openAll s.hp rs = some (H2, vc)) (hv : AllP vc) :
    ∃ ι2, Rel N ι2 ⟨s.tm, H2⟩ a w ∧ ExtN n0 ι s.hp w ι2 H2 w ∧ n0 ≤ H2.length := by
  obtain ⟨l, hl⟩ := openAll_sound hr.rh h hv
  refine ⟨ι ++ l, ⟨hr.size, hr.defers, fun t v ht => ?_, hl.rh⟩, ExtN.of_ext (by rw [hr.rh.len]; exact hn) hl, Nat.le_trans hn (Ext.len hr.rh hl)⟩
  obtain ⟨g1, g2⟩ := hr.env t v ht
  exact ⟨g1, g2.mono hl.sub⟩

/-- Code run from a state some rows of which are opened. -/
theorem PW.opened {c : Code} {s s' : St} {e : Exit} (rs : List (Nat × Nat)) {H2 : Heap} {vc : List Prop} (h : openAll s.hp rs = some (H2, vc)) (hv : AllP vc) (hp : PW P N n0 c ⟨s.tm, H2⟩ e s') : PW P N n0 c s e s' := by
  intro ι a w hr hn
  obtain ⟨ι2, g1, g2, g3⟩ := openAll_rel hr hn h hv
  exact PW.trans_ext g1 g3 hp fun ι3 a3 w3 k1 k2 k3 => ⟨rfl, ι3, k1, g2.trans k2, k3⟩

/-- A piece of code told through from a state some rows of which are opened, its end taken as another state. -/
def evLo (P : Program) (N n0 : Nat) (c : Code) (s : St) (rs : List (Nat × Nat)) (os : List Orc) (ls : Lp) (m : List (Option Nat)) (e : Exit) (s' : St) : Option (List Prop) :=
  match openAll s.hp rs with
  | some (H2, vc) => match evL P N n0 c ⟨s.tm, H2⟩ os ls m e s' with
    | some vc2 => some (vc ++ vc2)
    | none => none
  | none => none

theorem PW.of_evLo (hm : P.follows .mixedOrders = true) {c : Code} {s s' : St} {e : Exit} {vc : List Prop} (rs : List (Nat × Nat)) (os : List Orc) (ls : Lp) (m : List (Option Nat))
    (h : evLo P N n0 c s rs os ls m e s' = some vc) (hv : AllP vc) : PW P N n0 c s e s' := by
  unfold evLo at h
  split at h
  · rename_i H2 vc1 ho
    split at h
    · rename_i vc2 h2
      simp only [Option.some.injEq] at h; subst h
      obtain ⟨v1, v2⟩ := allP_app hv
      exact PW.opened rs ho v1 (PW.of_evL hm os ls m h2 v2)
    · cases h
  · cases h

/-- A call of a function with a body, told through from a state some rows of which are opened. -/
def evFo (P : Program) (fn : Func) (args : List Value) (H : Heap) (rs : List (Nat × Nat)) (os : List Orc) (ls : Lp) (m : List (Option Nat)) (v : Value) (H' : Heap) : Option (List Prop) :=
  match fn.body, openAll H rs with
  | some c, some (H2, vc0) => match evC P fn.ntmps H.length c ⟨argsEnv 0 args, H2⟩ os ls with
    | some (e, s, _, _, vc) => match evF.isEnd e, evRes P s.hp s.tm fn.results.toList with
      | true, some (r, vr) => bif Nat.ble args.length fn.ntmps then
          match fit H.length m ⟨[(0, r)], s.hp⟩ ⟨[(0, v)], H'⟩ with
          | some vc' => some (vc0 ++ (vc ++ vr ++ vc'))
          | none => none
          else none
      | _, _ => none
    | none => none
  | _, _ => none

theorem Ev.ofo (hm : P.follows .mixedOrders = true) {f : FuncId} {fn : Func} {args : List Value} {H H' : Heap} {v : Value} (rs : List (Nat × Nat)) (os : List Orc) (ls : Lp) (m : List (Option Nat)) {vc : List Prop}
    (hf : P.funcs[f]? = some fn) (hname : (fn.name == "runtime.NumGoroutine") = false) (h : evFo P fn args H rs os ls m v H' = some vc) (hv : AllP vc) : Ev P f args H v H' := by
  intro ι w args' hrh hargs
  unfold evFo at h
  split at h
  · rename_i c H2 vc0 hb hop
    split at h
    · rename_i e s os' ls' vc1 hev
      split at h
      · rename_i r vr hend hres
        cases hle : Nat.ble args.length fn.ntmps with
        | false => simp [hle] at h
        | true =>
          simp only [hle, cond_true] at h
          split at h
          · rename_i vc2 hfit
            simp only [Option.some.injEq] at h; subst h
            obtain ⟨v0, hv⟩ := allP_app hv
            obtain ⟨v1, v2⟩ := allP_app hv
            obtain ⟨v1, vr1⟩ := allP_app v1
            have hal : args'.length ≤ fn.ntmps := by rw [← hargs.length]; exact Nat.le_of_ble_eq_true hle
            refine ⟨?_, calls_of_wp hf hb ?_⟩
            · have h1 : fn.name ≠ "runtime.NumGoroutine" := by simpa using hname
              simp [callFunc, hf, h1, hb]
            · have hrel0 : Rel fn.ntmps ι ⟨argsEnv 0 args, H⟩ { tmps := (⟨args'⟩ : Array Value) ++ Array.replicate (fn.ntmps - (⟨args'⟩ : Array Value).size) undef, defers := [] } w := by
                refine ⟨?_, rfl, fun t u ht => ?_, hrh⟩
                · simp; omega
                · obtain ⟨_, g⟩ := look_argsEnv ht
                  simp only [Nat.sub_zero] at g
                  obtain ⟨u', g1, g2⟩ := hargs.get t u g
                  have hlt := some_lt g1
                  refine ⟨by omega, ?_⟩
                  rw [Array.getD_eq_getD_getElem?, Array.getElem?_append_left (by simpa using hlt)]
                  simp only [List.getElem?_toArray, g1, Option.getD_some]
                  exact g2
              obtain ⟨ι0, hrel, hx0, hn0⟩ := openAll_rel (n0 := H.length) hrel0 (Nat.le_refl _) hop v0
              refine PW.trans_ext hrel hn0 (evC_sound hm hev v1) fun ι1 a1 w1 g1 g2 g3 => ?_
              obtain ⟨u, k1, k2⟩ := evRes_sound hres vr1 (fun t v ht => (g1.env t v ht).2) g1.rh
              have hrel2 : Rel 1 ι1 ⟨[(0, r)], s.hp⟩ { tmps := #[u], defers := [] } w1 := by
                refine ⟨rfl, rfl, fun t x ht => ?_, g1.rh⟩
                simp only [look] at ht
                cases hb : Nat.beq t 0 with
                | false => simp [hb] at ht
                | true =>
                  have := Nat.eq_of_beq_eq_true hb; subst this
                  simp only [hb, cond_true, Option.some.injEq] at ht; subst ht
                  exact ⟨Nat.zero_lt_one, k2⟩
              obtain ⟨ι2, j1, j2, j3⟩ := fit_sound hrel2 g3 hfit v2
              have hext := hx0.trans (g2.trans j2)
              obtain ⟨l, hl⟩ := hext.pre
              have hpre : ι.take H.length = ι := by rw [← hrh.len]; exact List.take_length
              have hr2 := (j1.env 0 v (by rfl)).2
              have done : ∃ ι' v', Ending.returned u = .returned v' ∧ VR ι' v v' ∧ Ext ι H w ι' H' w1 :=
                ⟨ι2, u, rfl, hr2, ⟨l, by rw [hl, hpre]⟩, j1.rh, hext.fr, hext.fresh⟩
              cases e with
              | normal => exact ⟨g1.defers, u, k1, done⟩
              | ret => exact ⟨g1.defers, u, k1, done⟩
              | exit _ => simp [evF.isEnd] at hend
              | goto _ => simp [evF.isEnd] at hend
              | panic _ => simp [evF.isEnd] at hend
              | outgrown => simp [evF.isEnd] at hend
          · cases h
      · cases h
    · cases h
  · cases h

end
end Go.Sim
