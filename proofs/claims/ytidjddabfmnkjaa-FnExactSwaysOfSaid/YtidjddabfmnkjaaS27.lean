/- A pure account of the values, floats and memory of a run, and how it stands to the model's (part 27: a row's slice is lent to be written). Conditions: none. -/
import Derived.Test.YtidjddabfmnkjaaS25
namespace Go.Sim
open Go

/-- The row with another content of its slice. -/
def setR (ys : List Nat) : List HC → List HC
  | [] => []
  | .r _ :: l => .r ys :: l
  | h :: l => h :: setR ys l

def updR (g : Nat → List HC) (r : Nat) (ys : List Nat) : Nat → List HC := fun i => bif Nat.beq i r then setR ys (g r) else g i

theorem setR_v (ys : List Nat) : ∀ l : List HC, (setR ys l).map HC.v = l.map HC.v
  | [] => rfl
  | .r _ :: l => rfl
  | .c s :: l => by simp [setR, setR_v ys l]

theorem updR_v (g : Nat → List HC) (r : Nat) (ys : List Nat) (i : Nat) : (updR g r ys i).map HC.v = (g i).map HC.v := by
  unfold updR
  cases h : Nat.beq i r with
  | true => have := Nat.eq_of_beq_eq_true h; subst this; exact setR_v ys _
  | false => rfl

/-- The hidden slices of a row that has one. -/
theorem setR_get {k : Nat} {ys : List Nat} : ∀ {l : List HC} {vs : List Value} {xs : List Nat}, openL k l = some (vs, xs) → ∃ j0 : Nat, l[j0]? = some (HC.r xs) ∧ (∀ (j : Nat) (zs : List Nat), l[j]? = some (HC.r zs) → j = j0) ∧ ∀ (j : Nat) (zs : List Nat), (setR ys l)[j]? = some (HC.r zs) → j = j0 ∧ zs = ys
  | [], vs, xs, e => by simp [openL] at e
  | .r zs :: l, vs, xs, e => by
    simp only [openL, Option.map_eq_some_iff, Prod.mk.injEq] at e
    obtain ⟨t, ht, rfl, rfl⟩ := e
    obtain ⟨_, g2⟩ := scL_spec ht
    have hno : ∀ (j : Nat) (us : List Nat), l[j]? ≠ some (HC.r us) := fun j us hj => by
      obtain ⟨s, hs, _⟩ := g2 j _ hj
      cases hs
    refine ⟨0, rfl, fun j us hj => ?_, fun j us hj => ?_⟩
    · cases j with
      | zero => rfl
      | succ j => exact absurd (by simpa using hj) (hno j us)
    · cases j with
      | zero => simp [setR] at hj; exact ⟨rfl, hj.symm⟩
      | succ j => exact absurd (by simpa [setR] using hj) (hno j us)
  | .c s :: l, vs, xs, e => by
    simp only [openL, Option.map_eq_some_iff] at e
    obtain ⟨⟨t, us⟩, ht, e⟩ := e
    simp only [Prod.mk.injEq] at e
    obtain ⟨rfl, rfl⟩ := e
    obtain ⟨j0, h1, h2, h3⟩ := setR_get (ys := ys) ht
    refine ⟨j0 + 1, by simpa using h1, fun j zs hj => ?_, fun j zs hj => ?_⟩
    · cases j with
      | zero => simp at hj
      | succ j => rw [h2 j zs (by simpa using hj)]
    · cases j with
      | zero => simp [setR] at hj
      | succ j =>
        obtain ⟨e1, e2⟩ := h3 j zs (by simpa [setR] using hj)
        exact ⟨by rw [e1], e2⟩

/-- Blocks of 'H2' that are only read stood in 'H'. -/
def keepsB : Heap → Heap → Bool
  | some _ :: H, some _ :: H2 => keepsB H H2
  | none :: H, some c :: H2 => c.own && keepsB H H2
  | [], some c :: H2 => c.own && keepsB [] H2
  | _ :: H, none :: H2 => keepsB H H2
  | [], none :: H2 => keepsB [] H2
  | _, [] => true

theorem keepsB_get : ∀ {H2 H : Heap} {j : Nat} {c : Blk}, keepsB H H2 = true → H2[j]? = some (some c) → c.own = true ∨ ∃ b, H[j]? = some (some b)
  | [], _, j, c, h, hj => by simp at hj
  | x :: H2, [], 0, c, h, hj => by
    simp at hj; subst hj
    simp only [keepsB, Bool.and_eq_true] at h
    exact .inl h.1
  | x :: H2, [], j + 1, c, h, hj => by
    have h' : keepsB [] H2 = true := by
      cases x with
      | none => simpa [keepsB] using h
      | some d => simp only [keepsB, Bool.and_eq_true] at h; exact h.2
    have := keepsB_get (j := j) h' (by simpa using hj)
    simpa using this
  | x :: H2, y :: H, 0, c, h, hj => by
    simp at hj; subst hj
    cases y with
    | none => simp only [keepsB, Bool.and_eq_true] at h; exact .inl h.1
    | some d => exact .inr ⟨d, rfl⟩
  | x :: H2, y :: H, j + 1, c, h, hj => by
    have h' : keepsB H H2 = true := by
      cases x with
      | none => cases y <;> simpa [keepsB] using h
      | some d => cases y with
        | none => simp only [keepsB, Bool.and_eq_true] at h; exact h.2
        | some e => simpa [keepsB] using h
    simpa using keepsB_get h' (by simpa using hj)

/-- No block but 'b' holds a slice. -/
def plainBut (b : Nat) : Nat → Heap → Bool
  | _, [] => true
  | k, none :: l => plainBut b (k + 1) l
  | k, some c :: l => (Nat.beq k b || c.c.plainC) && plainBut b (k + 1) l

theorem plainBut_get {b : Nat} : ∀ {H : Heap} {k j : Nat} {c : Blk}, plainBut b k H = true → H[j]? = some (some c) → k + j = b ∨ c.c.plainC = true
  | [], k, j, c, h, hj => by simp at hj
  | none :: l, k, 0, c, h, hj => by simp at hj
  | some d :: l, k, 0, c, h, hj => by
    simp at hj; subst hj
    simp only [plainBut, Bool.and_eq_true, Bool.or_eq_true] at h
    rcases h.1 with h1 | h1
    · exact .inl (by have := Nat.eq_of_beq_eq_true h1; omega)
    · exact .inr h1
  | none :: l, k, j + 1, c, h, hj => by
    have := plainBut_get (k := k + 1) (j := j) (by simpa [plainBut] using h) (by simpa using hj)
    rcases this with h1 | h1
    · exact .inl (by omega)
    · exact .inr h1
  | some d :: l, k, j + 1, c, h, hj => by
    simp only [plainBut, Bool.and_eq_true] at h
    have := plainBut_get (k := k + 1) (j := j) h.2 (by simpa using hj)
    rcases this with h1 | h1
    · exact .inl (by omega)
    · exact .inr h1

section
variable {P : Program} {N n0 : Nat}

def lentH (H : Heap) (b r sz : Nat) (vs : List Value) (xs : List Nat) : Heap :=
  setAt H b (some ⟨false, .nst 0 sz (fun _ => []) [(r, H.length)]⟩) ++ [some ⟨false, .vs vs⟩] ++ [some ⟨true, .fl .f32 xs⟩]

/-- Behind it: the row has what was written, the blocks that spoke of it are gone. -/
def backH (H : Heap) (b L n sz : Nat) (g : Nat → List HC) : Heap :=
  setAt (setAt (setAt H b (some ⟨true, .nst n sz g []⟩)) L none) (L + 1) none

set_option maxHeartbeats 1000000 in
theorem PW.lend {c : Code} {s s2' : St} {e : Exit} {b r n sz : Nat} {g : Nat → List HC} {vs : List Value} {xs ys : List Nat}
    (hb : s.hp[b]? = some (some ⟨true, .nst n sz g []⟩)) (hr : r < n) (hop : openL (s.hp.length + 1) (g r) = some (vs, xs))
    (hpl0 : plainBut b 0 s.hp = true)
    (hp : PW P N (s.hp.length + 2) c ⟨s.tm, lentH s.hp b r sz vs xs⟩ e s2')
    (hkk : s2'.hp[s.hp.length + 1]? = some (some ⟨true, .fl .f32 ys⟩)) (hlen : ys.length = xs.length)
    (hkeep : keepsB (lentH s.hp b r sz vs xs) s2'.hp = true) (hpl : plainBut b 0 s2'.hp = true) :
    PW P N n0 c s e ⟨s2'.tm, backH s2'.hp b s.hp.length n sz (updR g r ys)⟩ := by
  intro ι a w hrel hn
  have hrh := hrel.rh
  have hil := hrh.len
  have hbl : b < ι.length := by rw [hil]; exact some_lt hb
  obtain ⟨p, hpp⟩ : ∃ p, ι[b]? = some p := ⟨_, List.getElem?_eq_getElem hbl⟩
  have hbk := hrh.blk b p _ hpp hb
  obtain ⟨l1, j0', l2', l3⟩ := openL_spec hop
  obtain ⟨j0, l2, lu, lset⟩ := setR_get (ys := ys) hop
  have hj00 : j0' = j0 := lu j0' xs l2'
  subst hj00
  have hgl : (g r).length = sz := by simpa [Cont.row, Cont.sz] using hbk.len r hr
  have hpsz : p.sz = sz := hbk.sz
  have hj0 : j0' < sz := by have := some_lt l2; omega
  obtain ⟨rb, cs, e0, f0, v0, u0, q1, q2, q3, q4, q5, q6⟩ := hbk.cells r j0' hr hj0
  have hcell : HidCell ι s.hp w b r j0' true xs v0 := ⟨p, _, n, sz, g, [], rb, cs, e0, f0, hpp, hb, rfl, rfl, hr, l2, q1, q2, q3⟩
  obtain ⟨q0, k1, k2, k3⟩ := hrh.hid.ok _ _ _ _ _ _ hcell
  have hL : (s.hp.set b (some (⟨false, .nst 0 sz (fun _ => []) [(r, s.hp.length)]⟩ : Blk))).length = s.hp.length := by simp
  have hH2 : lentH s.hp b r sz vs xs = s.hp.set b (some ⟨false, .nst 0 sz (fun _ => []) [(r, s.hp.length)]⟩) ++ [some ⟨false, .vs vs⟩] ++ [some ⟨true, .fl .f32 xs⟩] := by unfold lentH; rw [setAt_eq]
  generalize hH2g : lentH s.hp b r sz vs xs = H2 at hH2 hp hkeep
  have hlen2 : H2.length = s.hp.length + 2 := by rw [hH2]; simp
  generalize hι2 : ι ++ [⟨p.blk, p.base + r * p.sz, p.sz, 1⟩] ++ [q0] = ι2
  have hlenι : ι2.length = s.hp.length + 2 := by rw [← hι2]; simp [hil]
  have hsub : Sub ι ι2 := fun i x hx => by rw [← hι2]; exact getElem?_snoc_lt (getElem?_snoc_lt hx)
  have at1 : ι2[s.hp.length]? = some ⟨p.blk, p.base + r * p.sz, p.sz, 1⟩ := by rw [← hι2, ← hil]; exact getElem?_snoc_lt (by simp)
  have at2 : ι2[s.hp.length + 1]? = some q0 := by
    have : s.hp.length + 1 = (ι ++ [(⟨p.blk, p.base + r * p.sz, p.sz, 1⟩ : Place)]).length := by simp [hil]
    rw [this, ← hι2]; simp
  -- what is spoken of in the meantime
  have cls : ∀ (i : Nat) (q : Place) (c : Blk), ι2[i]? = some q → H2[i]? = some (some c) →
      (i ≠ b ∧ i < s.hp.length ∧ ι[i]? = some q ∧ s.hp[i]? = some (some c)) ∨ (i = b ∧ q = p ∧ c = ⟨false, .nst 0 sz (fun _ => []) [(r, s.hp.length)]⟩) ∨
      (i = s.hp.length ∧ q = ⟨p.blk, p.base + r * p.sz, p.sz, 1⟩ ∧ c = ⟨false, .vs vs⟩) ∨ (i = s.hp.length + 1 ∧ q = q0 ∧ c = ⟨true, .fl .f32 xs⟩) := by
    intro i q c hq hc
    rw [← hι2] at hq
    rw [hH2] at hc
    rcases getElem?_snoc hq with ⟨hqa, hi⟩ | ⟨hi, rfl⟩
    · rcases getElem?_snoc hc with ⟨hca, _⟩ | ⟨hi2, _⟩
      · rcases getElem?_snoc hqa with ⟨hqb, hib⟩ | ⟨hib, rfl⟩
        · rcases getElem?_snoc hca with ⟨hcb, _⟩ | ⟨hi2, _⟩
          · rw [List.getElem?_set] at hcb
            by_cases hbi : b = i
            · rw [if_pos hbi, if_pos (by omega)] at hcb
              simp only [Option.some.injEq] at hcb
              rw [← hbi, hpp] at hqb
              cases hqb
              exact .inr (.inl ⟨hbi.symm, rfl, hcb.symm⟩)
            · rw [if_neg hbi] at hcb
              exact .inl ⟨fun e => hbi e.symm, by omega, hqb, hcb⟩
          · simp at hi2; omega
        · rcases getElem?_snoc hca with ⟨hcb, hi2⟩ | ⟨_, hcb⟩
          · simp at hi2; omega
          · simp at hcb; exact .inr (.inr (.inl ⟨by omega, rfl, hcb⟩))
      · simp at hi hi2; omega
    · rcases getElem?_snoc hc with ⟨hc, hi2⟩ | ⟨_, hc⟩
      · simp at hi hi2; omega
      · simp at hc; exact .inr (.inr (.inr ⟨by simp at hi; omega, rfl, hc⟩))
  have nohid : ∀ i r' j own zs v, HidCell ι2 H2 w i r' j own zs v → False := by
    rintro i r' j own zs v ⟨q, c, n', sz', g', o', rb', cs', e', f', z1, z2, z3, z4, z5, _⟩
    rcases cls i q c z1 z2 with ⟨hib, _, y1, y2⟩ | ⟨rfl, _, rfl⟩ | ⟨_, _, rfl⟩ | ⟨_, _, rfl⟩
    · rcases plainBut_get hpl0 y2 with h | h
      · omega
      · rw [z4] at h; cases h
    · simp only [Cont.nst.injEq] at z4; omega
    · cases z4
    · cases z4
  have hrh2 : RH ι2 H2 w := by
    refine ⟨by omega, ?_, ?_, ?_, ⟨fun i r' j own zs v hc => (nohid _ _ _ _ _ _ hc).elim, fun i r' j own zs v rb' hc => (nohid _ _ _ _ _ _ hc).elim, fun i q c rb' _ _ _ _ i' r' j own zs v hc => (nohid _ _ _ _ _ _ hc).elim, fun i r' j zs v rb' hc => (nohid _ _ _ _ _ _ hc).elim, fun i r' j zs v rb' hc => (nohid _ _ _ _ _ _ hc).elim⟩⟩
    · intro i q c hq hc
      rcases cls i q c hq hc with ⟨hib, _, y1, y2⟩ | ⟨rfl, rfl, rfl⟩ | ⟨rfl, rfl, rfl⟩ | ⟨rfl, rfl, rfl⟩
      · exact (hrh.blk i q c y1 y2).of_heap hsub fun _ _ _ => rfl
      · refine ⟨hpsz, fun r' hr' => by simp [Cont.rows] at hr', fun r' j hr' => by simp [Cont.rows] at hr', fun ho => (by cases ho), fun r' k hk => ?_⟩
        simp only [Cont.vias, List.mem_singleton, Prod.mk.injEq] at hk
        obtain ⟨rfl, rfl⟩ := hk
        exact ⟨_, at1, rfl, rfl, rfl⟩
      · refine ⟨?_, fun r' hr' => rfl, fun r' j hr' hj => ?_, fun ho => (by cases ho), fun r' k hk => (by cases hk)⟩
        · show p.sz = vs.length
          omega
        · simp only [Cont.rows] at hr'
          obtain rfl : r' = 0 := by omega
          simp only [Cont.sz] at hj
          have hjs : j < sz := by omega
          obtain ⟨rb', cs', e', f', v, u, z1, z2, z3, z4, z5, z6⟩ := hbk.cells r j hr hjs
          rw [q1] at z1; cases z1
          rw [q2] at z2; cases z2
          have hgj : (g r)[j]? = some ((g r)[j]'(by omega)) := List.getElem?_eq_getElem (by omega)
          have hu : u = ((g r)[j]'(by omega)).v := by
            simp only [Cont.row, List.getElem?_map, hgj, Option.map_some, Option.some.injEq] at z4
            exact z4.symm
          refine ⟨rb, cs, e0, f0, v, _, q1, q2, by simpa using z3, List.getElem?_eq_getElem hj, ?_, z6⟩
          rcases l3 j _ hgj with ⟨rfl, y⟩ | ⟨s0, y1, y2⟩
          · have : vs[j]'hj = .slice (some ⟨s.hp.length + 1, 0, none⟩) xs.length 1 := by
              rw [List.getElem?_eq_getElem hj] at y; simpa using y
            rw [q3] at z3
            cases z3
            rw [this]
            generalize xs.length = l at k2
            cases k2 with
            | slice g1 g2 g3 g4 g5 =>
              simp at g1; subst g1
              exact .slice at2 g2 g3 g4 g5
            | slice0 hx => exact .slice0 hx
          · have : vs[j]'hj = s0.v := by
              rw [List.getElem?_eq_getElem hj] at y2; simpa using y2
            rw [this]
            rw [hu, y1] at z5
            exact z5.free (free_sc s0)
      · exact blkOk_floats k1
    · intro i j q q' c d rb' hq hc ho hq' hd hij hrb'
      rcases cls i q c hq hc with ⟨hib, _, y1, y2⟩ | ⟨rfl, rfl, rfl⟩ | ⟨rfl, rfl, rfl⟩ | ⟨rfl, rfl, rfl⟩
      · rcases cls j q' d hq' hd with ⟨hjb, _, z1, z2⟩ | ⟨rfl, rfl, rfl⟩ | ⟨rfl, rfl, rfl⟩ | ⟨rfl, rfl, rfl⟩
        · exact hrh.sep i j q q' c d rb' y1 y2 ho z1 z2 hij hrb'
        · exact hrh.sep i j q q' c _ rb' y1 y2 ho hpp hb hib hrb'
        · exact hrh.sep i b q p c _ rb' y1 y2 ho hpp hb hib hrb'
        · intro hqb
          exact hrh.hid.s1 i q c rb' y1 y2 ho hrb' _ _ _ _ _ _ hcell (k3 rb' hqb)
      · cases ho
      · cases ho
      · have hin := k3 rb' hrb'
        rcases cls j q' d hq' hd with ⟨hjb, _, z1, z2⟩ | ⟨rfl, rfl, rfl⟩ | ⟨rfl, rfl, rfl⟩ | ⟨rfl, rfl, rfl⟩
        · exact hrh.hid.s2 _ _ _ _ _ _ hcell hin j q' d z1 z2
        · exact hrh.hid.s2 _ _ _ _ _ _ hcell hin j q' _ hpp hb
        · exact hrh.hid.s2 _ _ _ _ _ _ hcell hin b p _ hpp hb
        · exact absurd rfl hij
    · intro i q c rb' hq hc hrb'
      rcases cls i q c hq hc with ⟨hib, _, y1, y2⟩ | ⟨rfl, rfl, rfl⟩ | ⟨rfl, rfl, rfl⟩ | ⟨rfl, rfl, rfl⟩
      · exact hrh.lt i q c rb' y1 y2 hrb'
      · exact hrh.lt i q _ rb' hpp hb hrb'
      · exact hrh.lt b p _ rb' hpp hb hrb'
      · exact hrh.hid.lt _ _ _ _ _ _ _ hcell (k3 rb' hrb')
  -- what may be written in the meantime
  have own2 : ∀ rb', Own ι2 H2 w rb' → (∃ (i : Nat) (q : Place) (c : Blk), i ≠ b ∧ ι[i]? = some q ∧ s.hp[i]? = some (some c) ∧ c.own = true ∧ q.blk = some rb') ∨ Inner v0 rb' := by
    rintro rb' (⟨i, q, c, hq, hc, ho, hrb'⟩ | ⟨i, r', j, zs, v, hc, hi⟩)
    · rcases cls i q c hq hc with ⟨hib, _, y1, y2⟩ | ⟨rfl, rfl, rfl⟩ | ⟨rfl, rfl, rfl⟩ | ⟨rfl, rfl, rfl⟩
      · exact .inl ⟨i, q, c, hib, y1, y2, ho, hrb'⟩
      · cases ho
      · cases ho
      · exact .inr (k3 rb' hrb')
    · exact (nohid _ _ _ _ _ _ hc).elim
  have own2s : ∀ rb', Own ι2 H2 w rb' → Own ι s.hp w rb' := fun rb' ho => by
    rcases own2 rb' ho with ⟨i, q, c, _, y1, y2, y3, y4⟩ | h
    · exact .inl ⟨i, q, c, y1, y2, y3, y4⟩
    · exact .inr ⟨b, r, j0', xs, v0, hcell, h⟩
  -- the nest itself is not
  have nout : ∀ rb', p.blk = some rb' → ¬ Own ι2 H2 w rb' := fun rb' hpb ho => by
    rcases own2 rb' ho with ⟨i, q, c, y0, y1, y2, y3, y4⟩ | h
    · exact hrh.sep i b q p c _ rb' y1 y2 y3 hpp hb y0 y4 hpb
    · exact hrh.hid.s2 _ _ _ _ _ _ hcell h b p _ hpp hb hpb
  have ninn : ∀ r' j own zs v rb', HidCell ι s.hp w b r' j own zs v → Inner v rb' → ¬ (r' = r ∧ j = j0') → ¬ Own ι2 H2 w rb' := fun r' j own zs v rb' hc hi hne ho => by
    rcases own2 rb' ho with ⟨i, q, c, y0, y1, y2, y3, y4⟩ | h
    · exact hrh.hid.s1 i q c rb' y1 y2 y3 y4 _ _ _ _ _ _ hc hi
    · obtain ⟨_, e1, e2⟩ := hrh.hid.s3 _ _ _ _ _ _ hcell h _ _ _ _ _ _ hc hi
      exact hne ⟨e1, e2⟩
  have hrel2 : Rel N ι2 ⟨s.tm, H2⟩ a w := ⟨hrel.size, hrel.defers, fun t v ht => ⟨(hrel.env t v ht).1, (hrel.env t v ht).2.mono hsub⟩, hrh2⟩
  refine wp_mono (hp ι2 a w hrel2 (by show s.hp.length + 2 ≤ H2.length; omega)) fun e' a' w' ⟨he, ι', h1, h2, h3⟩ => ⟨he, ι', ?_⟩
  obtain ⟨l, hl⟩ := h2.pre
  have htk : ι2.take (s.hp.length + 2) = ι2 := by rw [← hlenι]; exact List.take_length
  rw [htk] at hl
  have hrh' := h1.rh
  have hil' := hrh'.len
  have up : ∀ (i : Nat) (q : Place), ι2[i]? = some q → ι'[i]? = some q := fun i q hq => by rw [hl, List.getElem?_append_left (some_lt hq)]; exact hq
  have hfr := h2.fr
  have hw0 : ∀ rb', p.blk = some rb' → w'.heap[rb']? = w.heap[rb']? := fun rb' hpb => hfr.block rb' (hrh.lt b p _ rb' hpp hb hpb) (nout rb' hpb)
  have hbL : b ≠ s.hp.length := by omega
  -- what is spoken of behind it
  have cls3 : ∀ (i : Nat) (c : Blk), (backH s2'.hp b s.hp.length n sz (updR g r ys))[i]? = some (some c) →
      (i = b ∧ c = ⟨true, .nst n sz (updR g r ys) []⟩) ∨ (i ≠ b ∧ i ≠ s.hp.length ∧ i ≠ s.hp.length + 1 ∧ s2'.hp[i]? = some (some c)) := by
    intro i c hc
    unfold backH at hc
    rw [setAt_eq, setAt_eq, setAt_eq, List.getElem?_set] at hc
    split at hc
    · split at hc <;> cases hc
    · rename_i n1
      rw [List.getElem?_set] at hc
      split at hc
      · split at hc <;> cases hc
      · rename_i n2
        rw [List.getElem?_set] at hc
        split at hc
        · rename_i n3
          split at hc
          · simp only [Option.some.injEq] at hc
            exact .inl ⟨n3.symm, hc.symm⟩
          · cases hc
        · rename_i n3
          exact .inr ⟨fun e => n3 e.symm, fun e => n2 e.symm, fun e => n1 e.symm, hc⟩
  have hpb' : ι'[b]? = some p := up b p (hsub b p hpp)
  have hq0' : ι'[s.hp.length + 1]? = some q0 := up _ _ at2
  -- a block that stands there now, besides the nest, and a real block that was the nest's
  have other : ∀ (i : Nat) (q : Place) (c : Blk) (rb' : Nat), i ≠ b → i ≠ s.hp.length → i ≠ s.hp.length + 1 → ι'[i]? = some q → s2'.hp[i]? = some (some c) → q.blk = some rb' →
      (Own ι2 H2 w rb' ∨ w.heap.size ≤ rb') ∨ ∃ c0, ι[i]? = some q ∧ s.hp[i]? = some (some c0) := by
    intro i q c rb' n1 n2 n3 hq hc hrb'
    rcases keepsB_get hkeep hc with ho | ⟨c0, hc0⟩
    · exact .inl (h2.fresh rb' (.inl ⟨i, q, c, hq, hc, ho, hrb'⟩))
    · have hi2 : i < ι2.length := by rw [hlenι, ← hlen2]; exact some_lt hc0
      obtain ⟨q2, hq2⟩ : ∃ q2, ι2[i]? = some q2 := ⟨_, List.getElem?_eq_getElem hi2⟩
      have := up i q2 hq2
      rw [hq] at this; cases this
      rcases cls i q c0 hq2 hc0 with ⟨hib, _, y1, y2⟩ | ⟨e1, _⟩ | ⟨e1, _⟩ | ⟨e1, _⟩
      · exact .inr ⟨c0, y1, y2⟩
      · exact absurd e1 n1
      · exact absurd e1 n2
      · exact absurd e1 n3
  have cells3 : ∀ i r' j own zs v, HidCell ι' (backH s2'.hp b s.hp.length n sz (updR g r ys)) w' i r' j own zs v →
      i = b ∧ own = true ∧ ((¬ (r' = r ∧ j = j0') ∧ HidCell ι s.hp w b r' j true zs v) ∨ (r' = r ∧ j = j0' ∧ zs = ys ∧ v = v0)) := by
    rintro i r' j own zs v ⟨q, c, n', sz', g', o', rb', cs', e', f', z1, z2, z3, z4, z5, z6, z7, z8, z9⟩
    rcases cls3 i c z2 with ⟨rfl, rfl⟩ | ⟨n1, _, _, hc⟩
    · simp only [Cont.nst.injEq] at z4
      obtain ⟨rfl, rfl, rfl, rfl⟩ := z4
      rw [hpb'] at z1; cases z1
      rw [hw0 rb' z7] at z8
      rw [q1] at z7; cases z7
      rw [q2] at z8
      simp only [Option.some.injEq, Obj.cells.injEq] at z8
      obtain ⟨rfl, rfl, rfl⟩ := z8
      refine ⟨rfl, z3.symm, ?_⟩
      cases hrr : Nat.beq r' r with
      | true =>
        have := Nat.eq_of_beq_eq_true hrr
        subst this
        simp only [updR, hrr, cond_true] at z6
        obtain ⟨rfl, rfl⟩ := lset j zs z6
        rw [q3] at z9
        exact .inr ⟨rfl, rfl, rfl, by simpa using z9.symm⟩
      | false =>
        have hrr' : r' ≠ r := fun e => by subst e; simp at hrr
        simp only [updR, hrr, cond_false] at z6
        exact .inl ⟨fun h => hrr' h.1, ⟨p, _, n, sz, g, [], rb, cs, e0, f0, hpp, hb, rfl, rfl, z5, z6, q1, q2, z9⟩⟩
    · rcases plainBut_get hpl hc with h | h
      · omega
      · rw [z4] at h; cases h
  have hinn0 : ∀ rb', Inner v0 rb' → q0.blk = some rb' := by
    rintro rb' ⟨off, l', c', rfl⟩
    generalize xs.length = l0 at k2
    cases k2 with
    | slice g1 g2 g3 g4 g5 =>
      simp at g1; subst g1; exact g2
  have hrh3 : RH ι' (backH s2'.hp b s.hp.length n sz (updR g r ys)) w' := by
    refine ⟨by simp [backH, setAt_eq, hil'], ?_, ?_, ?_, ⟨?_, ?_, ?_, ?_, ?_⟩⟩
    · intro i q c hq hc
      rcases cls3 i c hc with ⟨rfl, rfl⟩ | ⟨n1, n2, n3, hc1⟩
      · rw [hpb'] at hq; cases hq
        have hbk' := hbk.of_heap (w' := w') (fun i x hx => up i x (hsub i x hx)) fun rb' hrb' _ => hw0 rb' hrb'
        refine ⟨hbk'.sz, fun r' hr' => ?_, fun r' j hr' hj => ?_, hbk'.own, fun r' k hk => by cases hk⟩
        · simp only [Cont.row, updR_v]; exact hbk'.len r' hr'
        · simp only [Cont.row, updR_v]; exact hbk'.cells r' j hr' hj
      · exact hrh'.blk i q c hq hc1
    · intro i j q q' c d rb' hq hc ho hq' hd hij hrb'
      rcases cls3 i c hc with ⟨rfl, rfl⟩ | ⟨n1, n2, n3, hc1⟩
      · rw [hpb'] at hq; cases hq
        rcases cls3 j d hd with ⟨rfl, rfl⟩ | ⟨m1, m2, m3, hd1⟩
        · exact absurd rfl hij
        · intro hqb
          rcases other j q' d rb' m1 m2 m3 hq' hd1 hqb with (h | h) | ⟨c0, y1, y2⟩
          · exact nout rb' hrb' h
          · have := hrh.lt i _ _ rb' hpp hb hrb'; omega
          · exact hrh.sep i j _ q' _ c0 rb' hpp hb rfl y1 y2 (fun e => m1 e.symm) hrb' hqb
      · rcases cls3 j d hd with ⟨rfl, rfl⟩ | ⟨m1, m2, m3, hd1⟩
        · rw [hpb'] at hq'; cases hq'
          intro hqb
          rcases h2.fresh rb' (.inl ⟨i, q, c, hq, hc1, ho, hrb'⟩) with h | h
          · exact nout rb' hqb h
          · have := hrh.lt j _ _ rb' hpp hb hqb; omega
        · exact hrh'.sep i j q q' c d rb' hq hc1 ho hq' hd1 hij hrb'
    · intro i q c rb' hq hc hrb'
      rcases cls3 i c hc with ⟨rfl, rfl⟩ | ⟨n1, n2, n3, hc1⟩
      · rw [hpb'] at hq; cases hq
        exact Nat.lt_of_lt_of_le (hrh.lt i _ _ rb' hpp hb hrb') hfr.size
      · exact hrh'.lt i q c rb' hq hc1 hrb'
    · intro i r' j own zs v hc
      obtain ⟨rfl, rfl, ⟨hne, hc0⟩ | ⟨rfl, rfl, rfl, rfl⟩⟩ := cells3 _ _ _ _ _ _ hc
      · exact (hrh.hid.ok _ _ _ _ _ _ hc0).of_heap id fun rb' hi hlt => hfr.block rb' hlt (ninn _ _ _ _ _ rb' hc0 hi hne)
      · exact ⟨q0, blkOk_floats (hrh'.blk _ q0 _ hq0' hkk), by rw [hlen]; exact k2, k3⟩
    · intro i r' j own zs v rb' hc hi
      obtain ⟨rfl, rfl, ⟨hne, hc0⟩ | ⟨rfl, rfl, rfl, rfl⟩⟩ := cells3 _ _ _ _ _ _ hc
      · exact Nat.lt_of_lt_of_le (hrh.hid.lt _ _ _ _ _ _ _ hc0 hi) hfr.size
      · exact Nat.lt_of_lt_of_le (hrh.hid.lt _ _ _ _ _ _ _ hcell hi) hfr.size
    · intro i q c rb' hq hcc ho hrb' i' r' j own zs v hc hi
      obtain ⟨rfl, rfl, hor⟩ := cells3 _ _ _ _ _ _ hc
      rcases cls3 i c hcc with ⟨rfl, rfl⟩ | ⟨n1, n2, n3, hcc1⟩
      · rw [hpb'] at hq; cases hq
        rcases hor with ⟨hne, hc0⟩ | ⟨rfl, rfl, rfl, rfl⟩
        · exact hrh.hid.s1 i _ _ rb' hpp hb rfl hrb' _ _ _ _ _ _ hc0 hi
        · exact hrh.hid.s1 i _ _ rb' hpp hb rfl hrb' _ _ _ _ _ _ hcell hi
      · rcases hor with ⟨hne, hc0⟩ | ⟨rfl, rfl, rfl, rfl⟩
        · rcases h2.fresh rb' (.inl ⟨i, q, c, hq, hcc1, ho, hrb'⟩) with h | h
          · exact ninn _ _ _ _ _ rb' hc0 hi hne h
          · have := hrh.hid.lt _ _ _ _ _ _ _ hc0 hi; omega
        · exact hrh'.sep i (s.hp.length + 1) q q0 c _ rb' hq hcc1 ho hq0' hkk n3 hrb' (hinn0 rb' hi)
    · intro i r' j zs v rb' hc hi i' q c hq hcc hrb'
      obtain ⟨rfl, _, hor⟩ := cells3 _ _ _ _ _ _ hc
      rcases cls3 i' c hcc with ⟨rfl, rfl⟩ | ⟨n1, n2, n3, hcc1⟩
      · rw [hpb'] at hq; cases hq
        rcases hor with ⟨hne, hc0⟩ | ⟨rfl, rfl, rfl, rfl⟩
        · exact hrh.hid.s2 _ _ _ _ _ _ hc0 hi i' _ _ hpp hb hrb'
        · exact hrh.hid.s2 _ _ _ _ _ _ hcell hi i' _ _ hpp hb hrb'
      · rcases hor with ⟨hne, hc0⟩ | ⟨rfl, rfl, rfl, rfl⟩
        · rcases other i' q c rb' n1 n2 n3 hq hcc1 hrb' with (h | h) | ⟨c0, y1, y2⟩
          · exact ninn _ _ _ _ _ rb' hc0 hi hne h
          · have := hrh.hid.lt _ _ _ _ _ _ _ hc0 hi; omega
          · exact hrh.hid.s2 _ _ _ _ _ _ hc0 hi i' q c0 y1 y2 hrb'
        · exact hrh'.sep (s.hp.length + 1) i' q0 q _ c rb' hq0' hkk rfl hq hcc1 (fun e => n3 e.symm) (hinn0 rb' hi) hrb'
    · intro i r' j zs v rb' hc hi i' r'' j' own' zs' v' hc' hi'
      obtain ⟨eb1, _, hor⟩ := cells3 _ _ _ _ _ _ hc
      obtain ⟨eb2, _, hor'⟩ := cells3 _ _ _ _ _ _ hc'
      have back : ∀ {r' j : Nat} {zs : List Nat} {v : Value}, ((¬ (r' = r ∧ j = j0') ∧ HidCell ι s.hp w b r' j true zs v) ∨ (r' = r ∧ j = j0' ∧ zs = ys ∧ v = v0)) → ∃ zs0, HidCell ι s.hp w b r' j true zs0 v := by
        rintro r' j zs v (⟨_, h⟩ | ⟨rfl, rfl, _, rfl⟩)
        · exact ⟨_, h⟩
        · exact ⟨_, hcell⟩
      obtain ⟨z0, g0⟩ := back hor
      obtain ⟨z0', g0'⟩ := back hor'
      obtain ⟨_, e3, e4⟩ := hrh.hid.s3 _ _ _ _ _ _ g0 hi _ _ _ _ _ _ g0' hi'
      exact ⟨eb2.trans eb1.symm, e3, e4⟩
  refine ⟨⟨h1.size, h1.defers, h1.env, hrh3⟩, ⟨⟨?_, ?_⟩, by rw [hil]; exact hn, hfr.mono own2s, ?_⟩, ?_⟩
  · exact (ι2.drop n0) ++ l
  · rw [← List.append_assoc]
    have e1 : ι.take n0 = ι2.take n0 := by rw [← hι2, List.append_assoc, List.take_append_of_le_length (by rw [hil]; exact hn)]
    rw [e1, List.take_append_drop]; exact hl
  · rintro rb' (⟨i, q, c, hq, hcc, ho, hrb'⟩ | ⟨i, r', j, zs, v, hc, hi⟩)
    · rcases cls3 i c hcc with ⟨rfl, rfl⟩ | ⟨n1, n2, n3, hcc1⟩
      · rw [hpb'] at hq; cases hq
        exact .inl (.inl ⟨i, _, _, hpp, hb, rfl, hrb'⟩)
      · rcases h2.fresh rb' (.inl ⟨i, q, c, hq, hcc1, ho, hrb'⟩) with h | h
        · exact .inl (own2s rb' h)
        · exact .inr h
    · obtain ⟨rfl, _, ⟨hne, hc0⟩ | ⟨rfl, rfl, rfl, rfl⟩⟩ := cells3 _ _ _ _ _ _ hc
      · exact .inl (.inr ⟨i, r', j, zs, v, hc0, hi⟩)
      · exact .inl (.inr ⟨i, r', j, xs, v, hcell, hi⟩)
  · have : (backH s2'.hp b s.hp.length n sz (updR g r ys)).length = s2'.hp.length := by simp [backH, setAt_eq]
    show n0 ≤ (backH s2'.hp b s.hp.length n sz (updR g r ys)).length
    rw [this]; omega


/-- A piece of code told through while a row's slice is lent, its end taken as another state. -/
def evLd (P : Program) (N n0 : Nat) (c : Code) (s : St) (b r : Nat) (os : List Orc) (ls : Lp) (m2 : List (Option Nat)) (e : Exit) (s2 : St) (m : List (Option Nat)) (s' : St) : Option (List Prop) :=
  match blkAt s.hp b with
  | some ⟨true, .nst n sz g []⟩ => match openL (s.hp.length + 1) (g r) with
    | some (vs, xs) => match evL P N (s.hp.length + 2) c ⟨s.tm, lentH s.hp b r sz vs xs⟩ os ls m2 e s2, blkAt s2.hp (s.hp.length + 1) with
      | some vc, some ⟨true, .fl .f32 ys⟩ => bif plainBut b 0 s.hp && keepsB (lentH s.hp b r sz vs xs) s2.hp && plainBut b 0 s2.hp then
          match fit n0 m ⟨s2.tm, backH s2.hp b s.hp.length n sz (updR g r ys)⟩ s' with
          | some vc2 => some ((r < n) :: (vc ++ ((ys.length = xs.length) :: vc2)))
          | none => none
        else none
      | _, _ => none
    | none => none
  | _ => none

theorem PW.of_evLd (hm : P.follows .mixedOrders = true) {c : Code} {s s' s2 : St} {e : Exit} {vc : List Prop} (b r : Nat) (os : List Orc) (ls : Lp) (m2 m : List (Option Nat))
    (h : evLd P N n0 c s b r os ls m2 e s2 m s' = some vc) (hv : AllP vc) : PW P N n0 c s e s' := by
  unfold evLd at h
  split at h
  · rename_i n sz g hb
    rw [blkAt_eq] at hb
    split at h
    · rename_i vs xs hop
      split at h
      · rename_i vc1 ys hev hkk
        rw [blkAt_eq] at hkk
        cases hcnd : (plainBut b 0 s.hp && keepsB (lentH s.hp b r sz vs xs) s2.hp && plainBut b 0 s2.hp) with
        | false => simp [hcnd] at h
        | true =>
          simp only [hcnd, cond_true] at h
          simp only [Bool.and_eq_true] at hcnd
          split at h
          · rename_i vc2 hf
            simp only [Option.some.injEq] at h; subst h
            obtain ⟨hr, hv⟩ := hv
            obtain ⟨v1, v2⟩ := allP_app hv
            obtain ⟨hlen, v3⟩ := v2
            have hp := PW.of_evL hm os ls m2 hev v1
            have hl := PW.lend (n0 := n0) hb hr hop hcnd.1.1 hp hkk hlen hcnd.1.2 hcnd.2
            intro ι a w hrel hn
            refine PW.trans_ext hrel hn hl fun ι1 a1 w1 g1 g2 g3 => ?_
            obtain ⟨ι2, k1, k2, k3⟩ := fit_sound g1 g3 hf v3
            exact ⟨rfl, ι2, k1, g2.trans k2, k3⟩
          · cases h
      · cases h
    · cases h
  · cases h

end
end Go.Sim
