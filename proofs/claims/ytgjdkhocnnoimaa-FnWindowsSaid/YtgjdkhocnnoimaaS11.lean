/- A pure account of the values, floats and memory of a run, and how it stands to the model's (part 11: names of blocks may be changed; calls). Conditions: none. -/
import Derived.Test.YtgjdkhocnnoimaaS10
namespace Go.Sim
open Go

theorem pos_spec : ∀ {m : List Nat} {b k : Nat}, pos b m = some k → m[k]? = some b
  | [], b, k, h => by cases h
  | x :: l, b, k, h => by
    simp only [pos] at h
    cases hb : Nat.beq b x with
    | true =>
      simp only [hb, cond_true, Option.some.injEq] at h
      subst h
      have := Nat.eq_of_beq_eq_true hb
      simp [this]
    | false =>
      simp only [hb, cond_false, Option.map_eq_some_iff] at h
      obtain ⟨j, hj, rfl⟩ := h
      simpa using pos_spec hj

/-- A value that names no block stands for the same whatever the places. -/
def Free (u : Value) : Prop := (∃ b, u = .bool b) ∨ (∃ k n, u = .int k n) ∨ (∃ k x, u = .float k x) ∨ (∃ k x y, u = .complex k x y) ∨ (∃ s, u = .string s) ∨ u = .map none

theorem VR.free {ι ι2 : List Place} {u v : Value} (h : VR ι u v) (hf : Free u) : VR ι2 u v := by
  rcases hf with ⟨b, rfl⟩ | ⟨k, n, rfl⟩ | ⟨k, x, rfl⟩ | ⟨k, x, y, rfl⟩ | ⟨s, rfl⟩ | rfl <;> cases h
  · exact .bool _
  · exact .int _ _
  · exact .float ‹_› ‹_›
  · exact .complex ‹_› ‹_› ‹_› ‹_›
  · exact .string _
  · exact .hid _ _ _

theorem free_sc (s : Sc) : Free s.v := by
  cases s with
  | b t => exact .inl ⟨t, rfl⟩
  | i k n => exact .inr (.inl ⟨k, n, rfl⟩)
  | f k x => exact .inr (.inr (.inl ⟨k, x, rfl⟩))
  | s t => exact .inr (.inr (.inr (.inr (.inl ⟨t, rfl⟩))))

theorem free_hc (s : HC) : Free s.v := by
  cases s with
  | c s => exact free_sc s
  | r xs => exact .inr (.inr (.inr (.inr (.inr rfl))))

/-- A change of names: 'g' takes each block's name to the new one; places go along. -/
structure Ren (ι ι2 : List Place) (g : Nat → Option Nat) : Prop where
  on : ∀ (b b' : Nat) (p : Place), g b = some b' → ι[b]? = some p → ι2[b']? = some p

/-- 'r' renames values in the way of 'g'. -/
def RenV (g : Nat → Option Nat) (r : Value → Option Value) : Prop :=
  ∀ (ι ι2 : List Place) (v u v' : Value), Ren ι ι2 g → r v = some u → VR ι v v' → VR ι2 u v'

theorem mapO_length {α β : Type} {f : α → Option β} : ∀ {l : List α} {r : List β}, mapO f l = some r → r.length = l.length
  | [], r, h => by cases h; rfl
  | x :: l, r, h => by
    simp only [mapO] at h
    cases h1 : f x with
    | none => simp [h1] at h
    | some y => cases h2 : mapO f l with
      | none => simp [h1, h2] at h
      | some r' => simp [h1, h2] at h; subst h; simp [mapO_length h2]

theorem mapO_get {α β : Type} {f : α → Option β} : ∀ {l : List α} {r : List β}, mapO f l = some r → ∀ (j : Nat) (x : α), l[j]? = some x → ∃ y, f x = some y ∧ r[j]? = some y
  | [], r, h, j, x, hx => by simp at hx
  | z :: l, r, h, j, x, hx => by
    simp only [mapO] at h
    cases h1 : f z with
    | none => simp [h1] at h
    | some y => cases h2 : mapO f l with
      | none => simp [h1, h2] at h
      | some r' =>
        simp [h1, h2] at h; subst h
        cases j with
        | zero => simp at hx; subst hx; exact ⟨y, h1, rfl⟩
        | succ j => simpa using mapO_get h2 j x (by simpa using hx)

theorem RenV.list {g : Nat → Option Nat} {r : Value → Option Value} (hr : RenV g r) {ι ι2 : List Place} (h : Ren ι ι2 g) : ∀ {l u l' : List Value}, mapO r l = some u → VRs ι l l' → VRs ι2 u l'
  | [], u, l', hm, hl => by cases hm; cases hl; exact .nil
  | v :: l, u, l', hm, hl => by
    simp only [mapO] at hm
    cases h1 : r v with
    | none => simp [h1] at hm
    | some y => cases h2 : mapO r l with
      | none => simp [h1, h2] at hm
      | some r' =>
        simp [h1, h2] at hm; subst hm
        cases hl with | cons hv hs => exact .cons (hr ι ι2 v y _ h h1 hv) (RenV.list hr h h2 hs)

theorem renV_rvI0 (m : List Nat) : RenV (fun b => pos b m) (rvI0 m) := by
  intro ι ι2 v u v' hren h hv
  unfold rvI0 at h
  split at h
  case h_1 =>
    rename_i b i s
    cases hp : pos b m with
    | none => simp [hp] at h
    | some b' => simp [hp] at h; subst h; cases hv with | ptr h1 h2 => exact .ptr (hren.on _ _ _ hp h1) h2
  case h_2 =>
    rename_i b i s l c
    cases hp : pos b m with
    | none => simp [hp] at h
    | some b' =>
      simp [hp] at h; subst h
      cases hv with
      | slice h1 h2 h3 h4 h5 => exact .slice (hren.on _ _ _ hp h1) h2 h3 h4 h5
      | slice0 hx => exact .slice0 hx
  all_goals try (simp only [Option.some.injEq] at h; subst h)
  all_goals first
    | (cases h; done)
    | (cases hv <;> first | exact .bool _ | exact .int _ _ | exact .float ‹_› ‹_› | exact .complex ‹_› ‹_› ‹_› ‹_› | exact .string _ | exact .nilFunc | exact .nilp | exact .nils | (rename_i hh; cases hh; exact .tuple .nil))

theorem renV_rvI1 (m : List Nat) : RenV (fun b => pos b m) (rvI1 m) := by
  intro ι ι2 v u v' hren h hv
  unfold rvI1 at h
  split at h
  · simp only [Option.map_eq_some_iff] at h
    obtain ⟨r, hr, rfl⟩ := h
    cases hv with | agg hl => exact .agg ((renV_rvI0 m).list hren hr hl)
  · rename_i fn f c
    cases h1 : mapO (rvI0 m) f with
    | none => simp [h1] at h
    | some f' => cases h2 : mapO (rvI0 m) c with
      | none => simp [h1, h2] at h
      | some c' =>
        simp [h1, h2] at h; subst h
        cases hv with | func _ hf hc => exact .func _ ((renV_rvI0 m).list hren h1 hf) ((renV_rvI0 m).list hren h2 hc)
  · exact renV_rvI0 m ι ι2 v u v' hren h hv

theorem renV_rvI (m : List Nat) : RenV (fun b => pos b m) (rvI m) := by
  intro ι ι2 v u v' hren h hv
  unfold rvI at h
  split at h
  · simp only [Option.map_eq_some_iff] at h
    obtain ⟨r, hr, rfl⟩ := h
    cases hv with | tuple hl => exact .tuple ((renV_rvI1 m).list hren hr hl)
  · exact renV_rvI1 m ι ι2 v u v' hren h hv

theorem renV_rvF0 (f : Nat → Nat) : RenV (fun b => some (f b)) (rvF0 f) := by
  intro ι ι2 v u v' hren h hv
  unfold rvF0 at h
  split at h
  case h_1 => simp only [Option.some.injEq] at h; subst h; cases hv with | ptr h1 h2 => exact .ptr (hren.on _ _ _ rfl h1) h2
  case h_2 =>
    simp only [Option.some.injEq] at h; subst h
    cases hv with
    | slice h1 h2 h3 h4 h5 => exact .slice (hren.on _ _ _ rfl h1) h2 h3 h4 h5
    | slice0 hx => exact .slice0 hx
  all_goals try (simp only [Option.some.injEq] at h; subst h)
  all_goals first
    | (cases h; done)
    | (cases hv <;> first | exact .bool _ | exact .int _ _ | exact .float ‹_› ‹_› | exact .complex ‹_› ‹_› ‹_› ‹_› | exact .string _ | exact .nilFunc | exact .nilp | exact .nils | (rename_i hh; cases hh; exact .tuple .nil))

theorem renV_rvF1 (f : Nat → Nat) : RenV (fun b => some (f b)) (rvF1 f) := by
  intro ι ι2 v u v' hren h hv
  unfold rvF1 at h
  split at h
  · simp only [Option.map_eq_some_iff] at h
    obtain ⟨r, hr, rfl⟩ := h
    cases hv with | agg hl => exact .agg ((renV_rvF0 f).list hren hr hl)
  · rename_i fn g c
    cases h1 : mapO (rvF0 f) g with
    | none => simp [h1] at h
    | some f' => cases h2 : mapO (rvF0 f) c with
      | none => simp [h1, h2] at h
      | some c' =>
        simp [h1, h2] at h; subst h
        cases hv with | func _ hf hc => exact .func _ ((renV_rvF0 f).list hren h1 hf) ((renV_rvF0 f).list hren h2 hc)
  · exact renV_rvF0 f ι ι2 v u v' hren h hv

theorem renV_rvF (f : Nat → Nat) : RenV (fun b => some (f b)) (rvF f) := by
  intro ι ι2 v u v' hren h hv
  unfold rvF at h
  split at h
  · simp only [Option.map_eq_some_iff] at h
    obtain ⟨r, hr, rfl⟩ := h
    cases hv with | tuple hl => exact .tuple ((renV_rvF1 f).list hren hr hl)
  · exact renV_rvF1 f ι ι2 v u v' hren h hv

/-- A content under other names. -/
theorem cont_ren {g : Nat → Option Nat} {r : Value → Option Value} (hr : RenV g r) {c c' : Cont} (h : (match c with | .vs l => (mapO r l).map Cont.vs | .nst n sz g _ => some (.nst n sz g []) | c => some c) = some c') :
    c'.rows = c.rows ∧ c'.sz = c.sz ∧ (∀ i, (c'.row i).length = (c.row i).length) ∧
    ∀ (ι ι2 : List Place), Ren ι ι2 g → ∀ (i j : Nat) (u v : Value), (c.row i)[j]? = some u → VR ι u v → ∃ u', (c'.row i)[j]? = some u' ∧ VR ι2 u' v := by
  have triv : ∀ (c : Cont), (∀ i j u, (c.row i)[j]? = some u → Free u) → c.rows = c.rows ∧ c.sz = c.sz ∧ (∀ i, (c.row i).length = (c.row i).length) ∧
    ∀ (ι ι2 : List Place), Ren ι ι2 g → ∀ (i j : Nat) (u v : Value), (c.row i)[j]? = some u → VR ι u v → ∃ u', (c.row i)[j]? = some u' ∧ VR ι2 u' v :=
    fun c hf => ⟨rfl, rfl, fun _ => rfl, fun ι ι2 _ i j u v hu hv => ⟨u, hu, hv.free (hf i j u hu)⟩⟩
  cases c with
  | vs l =>
    simp only [Option.map_eq_some_iff] at h
    obtain ⟨l', hl, rfl⟩ := h
    refine ⟨rfl, by simp [Cont.sz, mapO_length hl], fun i => by simp [Cont.row, mapO_length hl], fun ι ι2 hren i j u v hu hv => ?_⟩
    obtain ⟨u', h1, h2⟩ := mapO_get hl j u hu
    exact ⟨u', h2, hr ι ι2 u u' v hren h1 hv⟩
  | fl k xs =>
    simp only [Option.some.injEq] at h; subst h
    refine triv _ fun i j u hu => ?_
    cases j with
    | zero => simp [Cont.row] at hu; subst hu; exact .inr (.inr (.inl ⟨_, _, rfl⟩))
    | succ j => simp [Cont.row] at hu
  | it k xs =>
    simp only [Option.some.injEq] at h; subst h
    refine triv _ fun i j u hu => ?_
    cases j with
    | zero => simp [Cont.row] at hu; subst hu; exact .inr (.inl ⟨_, _, rfl⟩)
    | succ j => simp [Cont.row] at hu
  | cx k xs =>
    simp only [Option.some.injEq] at h; subst h
    refine triv _ fun i j u hu => ?_
    cases j with
    | zero => simp [Cont.row] at hu; subst hu; exact .inr (.inr (.inr (.inl ⟨_, _, _, rfl⟩)))
    | succ j => simp [Cont.row] at hu
  | fn n sz gg =>
    simp only [Option.some.injEq] at h; subst h
    refine triv _ fun i j u hu => ?_
    simp only [Cont.row, List.getElem?_map, Option.map_eq_some_iff] at hu
    obtain ⟨s, _, rfl⟩ := hu
    exact free_sc s
  | nst n sz gg o =>
    simp only [Option.some.injEq] at h; subst h
    refine ⟨rfl, rfl, fun _ => rfl, fun ι ι2 _ i j u v hu hv => ⟨u, hu, hv.free ?_⟩⟩
    simp only [Cont.row, List.getElem?_map, Option.map_eq_some_iff] at hu
    obtain ⟨s, _, rfl⟩ := hu
    exact free_hc s

/-- What a content with slices comes from. -/
theorem nst_ren {r : Value → Option Value} {c : Cont} {n sz : Nat} {g : Nat → List HC} {o : List (Nat × Nat)} (h : (match c with | .vs l => (mapO r l).map Cont.vs | .nst n sz g _ => some (.nst n sz g []) | c => some c) = some (.nst n sz g o)) : ∃ o', c = .nst n sz g o' := by
  cases c <;> simp only [Option.some.injEq, Option.map_eq_some_iff, reduceCtorEq, and_false, exists_false] at h
  cases h
  exact ⟨_, rfl⟩

theorem vias_ren {r : Value → Option Value} {c c' : Cont} (h : (match c with | .vs l => (mapO r l).map Cont.vs | .nst n sz g _ => some (.nst n sz g []) | c => some c) = some c') : c'.vias = [] := by
  cases c <;> simp only [Option.some.injEq, Option.map_eq_some_iff] at h
  case vs => obtain ⟨_, _, rfl⟩ := h; rfl
  all_goals (subst h; rfl)

theorem reI_eq (m : List Nat) (c : Cont) : c.reI m = (match c with | .vs l => (mapO (rvI1 m) l).map Cont.vs | .nst n sz g _ => some (.nst n sz g []) | c => some c) := by cases c <;> rfl
theorem reF_eq (f : Nat → Nat) (c : Cont) : c.reF f = (match c with | .vs l => (mapO (rvF1 f) l).map Cont.vs | .nst n sz g _ => some (.nst n sz g []) | c => some c) := by cases c <;> rfl

/-- A block under other names. -/
theorem BlkOk.ren {g : Nat → Option Nat} {r : Value → Option Value} (hr : RenV g r) {ι ι2 : List Place} {w : World} {p : Place} {b : Blk} {c' : Cont} {o : Bool} (h : BlkOk ι w p b)
    (hc : (match b.c with | .vs l => (mapO r l).map Cont.vs | .nst n sz g _ => some (.nst n sz g []) | c => some c) = some c') (hren : Ren ι ι2 g) (ho : o = true → b.own = true) : BlkOk ι2 w p ⟨o, c'⟩ := by
  obtain ⟨c1, c2, c3, c4⟩ := cont_ren hr hc
  refine ⟨by rw [h.sz]; exact c2.symm, fun i hi => ?_, fun i j hi hj => ?_, fun ho' rb hrb => ?_, fun i k hk => by rw [show (⟨o, c'⟩ : Blk).c = c' from rfl, vias_ren hc] at hk; cases hk⟩
  · show (c'.row i).length = c'.sz
    rw [c3, c2]; exact h.len i (by rw [← c1]; exact hi)
  · obtain ⟨rb, cs, e, f, v, u, h1, h2, h3, h4, h5, h6⟩ := h.cells i j (by rw [← c1]; exact hi) (by rw [← c2]; exact hj)
    obtain ⟨u', g1, g2⟩ := c4 ι ι2 hren i j u v h4 h5
    exact ⟨rb, cs, e, f, v, u', h1, h2, h3, g1, g2, h6⟩
  · obtain ⟨h1, h2, h3⟩ := h.own (ho ho') rb hrb
    exact ⟨h1, by show c'.rows ≤ _; rw [c1]; exact h2, h3⟩

/-! ### Handing blocks on -/

theorem and_inv {a b : Bool} (h : true = (a && b)) : a = true ∧ b = true := by cases a <;> cases b <;> first | exact ⟨rfl, rfl⟩ | cases h

theorem memN_spec : ∀ {l : List Nat} {b : Nat}, memN b l = false → b ∉ l
  | [], b, _ => by simp
  | x :: l, b, h => by
    simp only [memN, Bool.or_eq_false_iff] at h
    have := memN_spec h.2
    intro hm
    rcases List.mem_cons.1 hm with rfl | hm
    · simp at h
    · exact this hm

theorem onceOwn_spec : ∀ {m : List (Nat × Bool)}, onceOwn m = true → ∀ (i j : Nat) (b c : Nat) (o : Bool), m[i]? = some (b, true) → m[j]? = some (c, o) → i ≠ j → b ≠ c
  | [], _, i, j, b, c, o, hi, _, _ => by simp at hi
  | (x, ox) :: m, h, i, j, b, c, o, hi, hj, hij => by
    simp only [onceOwn, Bool.and_eq_true, Bool.or_eq_true] at h
    obtain ⟨h, hrest⟩ := h
    cases i with
    | zero =>
      simp at hi
      obtain ⟨rfl, rfl⟩ := hi
      cases j with
      | zero => exact absurd rfl hij
      | succ j =>
        simp at h
        have hm := memN_spec h
        simp at hj
        intro e; subst e
        exact hm (List.mem_map.2 ⟨(x, o), List.mem_of_getElem? hj, rfl⟩)
    | succ i =>
      simp at hi
      cases j with
      | zero =>
        simp at hj
        obtain ⟨rfl, rfl⟩ := hj
        intro e; subst e
        rcases h with ⟨h1, h2⟩ | ⟨h1, h2⟩
        · have hm := memN_spec (by simpa using h2)
          exact hm (List.mem_filterMap.2 ⟨(b, true), List.mem_of_getElem? hi, rfl⟩)
        · have hm := memN_spec (by simpa using h2)
          exact hm (List.mem_map.2 ⟨(b, true), List.mem_of_getElem? hi, rfl⟩)
      | succ j =>
        simp at hj
        exact onceOwn_spec hrest i j b c o hi hj (by omega)

theorem heapIo_length {mm : List Nat} {H : Heap} : ∀ {m : List (Nat × Bool)} {h : Heap}, heapIo mm H m = some h → h.length = m.length
  | [], h, e => by cases e; rfl
  | (b, o) :: m, h, e => by
    simp only [heapIo] at e
    split at e
    · rename_i blk r _ hr
      simp only [Option.map_eq_some_iff] at e
      obtain ⟨c, _, rfl⟩ := e
      simp [heapIo_length hr]
    · rename_i r _ hr
      simp only [Option.some.injEq] at e; subst e
      simp [heapIo_length hr]
    · cases e

theorem heapIo_get {mm : List Nat} {H : Heap} : ∀ {m : List (Nat × Bool)} {h : Heap}, heapIo mm H m = some h → ∀ (k b : Nat) (o : Bool), m[k]? = some (b, o) →
    b < H.length ∧ ∀ (c : Blk), h[k]? = some (some c) → ∃ blk : Blk, H[b]? = some (some blk) ∧ c.own = (blk.own && o) ∧ blk.c.reI mm = some c.c
  | [], h, e, k, b, o, hk => by simp at hk
  | (b0, o0) :: m, h, e, k, b, o, hk => by
    simp only [heapIo] at e
    split at e
    · rename_i blk r hb hr
      rw [nth_eq] at hb
      simp only [Option.map_eq_some_iff] at e
      obtain ⟨c0, hc0, rfl⟩ := e
      cases k with
      | zero =>
        simp at hk
        obtain ⟨rfl, rfl⟩ := hk
        exact ⟨some_lt hb, fun c hc => by simp at hc; subst hc; exact ⟨blk, hb, rfl, hc0⟩⟩
      | succ k => simpa using heapIo_get hr k b o (by simpa using hk)
    · rename_i r hb hr
      rw [nth_eq] at hb
      simp only [Option.some.injEq] at e; subst e
      cases k with
      | zero =>
        simp at hk
        obtain ⟨rfl, rfl⟩ := hk
        exact ⟨some_lt hb, fun c hc => by simp at hc⟩
      | succ k => simpa using heapIo_get hr k b o (by simpa using hk)
    · cases e

/-- The places of the blocks that are handed on. -/
def placesOf (ι : List Place) (mm : List Nat) : List Place := mm.map fun b => (ι[b]?).getD ⟨none, 0, 0, 0⟩

theorem placesOf_get {ι : List Place} {mm : List Nat} {k b : Nat} (h : mm[k]? = some b) {p : Place} (hp : ι[b]? = some p) : (placesOf ι mm)[k]? = some p := by
  simp [placesOf, h, hp]

theorem placesOf_back {ι : List Place} {mm : List Nat} {k : Nat} {p : Place} (h : (placesOf ι mm)[k]? = some p) (hlt : ∀ b ∈ mm, b < ι.length) : ∃ b, mm[k]? = some b ∧ ι[b]? = some p := by
  simp only [placesOf, List.getElem?_map, Option.map_eq_some_iff] at h
  obtain ⟨b, hb, hp⟩ := h
  have := hlt b (List.mem_of_getElem? hb)
  refine ⟨b, hb, ?_⟩
  rw [List.getElem?_eq_getElem this] at hp ⊢
  simpa using hp

theorem ren_places (ι : List Place) (mm : List Nat) : Ren ι (placesOf ι mm) (fun b => pos b mm) :=
  ⟨fun _ _ _ h hp => placesOf_get (pos_spec h) hp⟩

/-- The memory that is handed on. -/
theorem RH.hand {ι : List Place} {H h : Heap} {w : World} (hrh : RH ι H w) {m : List (Nat × Bool)} (e : heapIo (m.map (·.1)) H m = some h) (honce : onceOwn m = true) :
    RH (placesOf ι (m.map (·.1))) h w ∧ (∀ rb, Own1 (placesOf ι (m.map (·.1))) h rb → ∃ (b : Nat) (p : Place) (blk : Blk) (k : Nat), m[k]? = some (b, true) ∧ ι[b]? = some p ∧ H[b]? = some (some blk) ∧ blk.own = true ∧ p.blk = some rb) ∧
      (∀ k r j own xs v, HidCell (placesOf ι (m.map (·.1))) h w k r j own xs v → ∃ b o own0, m[k]? = some (b, o) ∧ HidCell ι H w b r j own0 xs v ∧ own = (own0 && o)) := by
  have hlen := heapIo_length e
  have hil := hrh.len
  have hlt : ∀ b ∈ m.map (·.1), b < ι.length := by
    intro b hb
    obtain ⟨k, hk⟩ := List.getElem?_of_mem hb
    simp only [List.getElem?_map, Option.map_eq_some_iff] at hk
    obtain ⟨⟨b', o⟩, hk, rfl⟩ := hk
    have := (heapIo_get e k b' o hk).1
    omega
  have key : ∀ (k : Nat) (p : Place) (c : Blk), (placesOf ι (m.map (·.1)))[k]? = some p → h[k]? = some (some c) → ∃ (b : Nat) (o : Bool) (blk : Blk), m[k]? = some (b, o) ∧ ι[b]? = some p ∧ H[b]? = some (some blk) ∧ c.own = (blk.own && o) ∧ blk.c.reI (m.map (·.1)) = some c.c := by
    intro k p c hp hc
    obtain ⟨b, hb, hpb⟩ := placesOf_back hp hlt
    simp only [List.getElem?_map, Option.map_eq_some_iff] at hb
    obtain ⟨⟨b', o⟩, hk, rfl⟩ := hb
    obtain ⟨blk, g1, g2, g3⟩ := (heapIo_get e k b' o hk).2 c hc
    exact ⟨b', o, blk, hk, hpb, g1, g2, g3⟩
  have keyH : ∀ k r j own xs v, HidCell (placesOf ι (m.map (·.1))) h w k r j own xs v → ∃ b o own0, m[k]? = some (b, o) ∧ HidCell ι H w b r j own0 xs v ∧ own = (own0 && o) := by
    rintro k r j own xs v ⟨p, c, n, sz, g, o, rb, cs, e, f, h1, h2, h3, h4, h5, h6, h7, h8, h9⟩
    obtain ⟨b, o', blk, g1, g2, g3, g4, g5⟩ := key k p c h1 h2
    rw [reI_eq, h4] at g5
    obtain ⟨o2, g6⟩ := nst_ren g5
    exact ⟨b, o', blk.own, g1, ⟨p, blk, n, sz, g, o2, rb, cs, e, f, g2, g3, rfl, g6, h5, h6, h7, h8, h9⟩, by rw [← h3]; exact g4⟩
  refine ⟨⟨by simp [placesOf, hlen], ?_, ?_, ?_, ?_⟩, ?_, keyH⟩
  · intro k p c hp hc
    obtain ⟨b, o, blk, h1, h2, h3, h4, h5⟩ := key k p c hp hc
    rw [reI_eq] at h5
    obtain ⟨co, cc⟩ := c
    exact (hrh.blk b p blk h2 h3).ren (renV_rvI1 _) h5 (ren_places ι _) (fun ho => by simp only at h4; rw [h4] at ho; simp at ho; exact ho.1)
  · intro k j p q c d rb hp hc ho hq hd hkj hrb
    obtain ⟨b, o, blk, h1, h2, h3, h4, h5⟩ := key k p c hp hc
    obtain ⟨b', o', blk', g1, g2, g3, g4, g5⟩ := key j q d hq hd
    rw [ho] at h4
    have h4' : blk.own = true ∧ o = true := by simpa using h4.symm
    obtain ⟨hbo, rfl⟩ := h4'
    have hne := onceOwn_spec honce k j b b' o' h1 g1 hkj
    exact hrh.sep b b' p q blk blk' rb h2 h3 hbo g2 g3 hne hrb
  · intro k p c rb hp hc hrb
    obtain ⟨b, o, blk, h1, h2, h3, h4, h5⟩ := key k p c hp hc
    exact hrh.lt b p blk rb h2 h3 hrb
  · refine hrh.hid.via (fun k b => ∃ o, m[k]? = some (b, o)) (Nat.le_refl _) (fun k r j own xs v hc => ?_) (fun k r j xs v k' own' r' j' xs' v' b hc hc' ⟨o1, a1⟩ ⟨o2, a2⟩ => ?_) fun k p c rb hp hc hrb => ?_
    · obtain ⟨b, o, own0, g1, g2, g3⟩ := keyH _ _ _ _ _ _ hc
      exact ⟨b, own0, ⟨o, g1⟩, g2, fun ho => by rw [ho] at g3; exact (and_inv g3).1, fun rb _ _ => rfl⟩
    · obtain ⟨b1, o3, own0, g1, g2, g3⟩ := keyH _ _ _ _ _ _ hc
      rw [a1] at g1; cases g1
      have ho1 : o1 = true := (and_inv g3).2
      subst ho1
      rcases Nat.decEq k k' with hne | he
      · exact absurd rfl (onceOwn_spec honce k k' b b o2 a1 a2 hne)
      · exact he.symm
    · obtain ⟨b, o, blk, h1, h2, h3, h4, h5⟩ := key k p c hp hc
      exact .inr ⟨b, p, blk, h2, hrb, h3, fun ho => by rw [ho] at h4; exact (and_inv h4).1⟩
  · rintro rb ⟨k, p, c, hp, hc, ho, hrb⟩
    obtain ⟨b, o, blk, h1, h2, h3, h4, h5⟩ := key k p c hp hc
    rw [ho] at h4
    have h4' : blk.own = true ∧ o = true := by simpa using h4.symm
    obtain ⟨hbo, rfl⟩ := h4'
    exact ⟨b, p, blk, k, h1, h2, h3, hbo, hrb⟩

/-! ### Taking the callee's memory back -/

/-- A block that was handed on to be written. -/
def Gave (H : Heap) (m : List (Nat × Bool)) (k b : Nat) : Prop := m[k]? = some (b, true) ∧ ∃ blk : Blk, H[b]? = some (some blk) ∧ blk.own = true

theorem mergeOld_spec (f : Nat → Nat) : ∀ {m : List (Nat × Bool)} {H hl h : Heap}, mergeOld f H m hl = some h → onceOwn m = true → m.length ≤ hl.length →
    h.length = H.length ∧ (∀ (i : Nat), (∀ k, ¬ Gave H m k i) → h[i]? = H[i]?) ∧
    (∀ (k b : Nat), Gave H m k b → ∃ x x', hl[k]? = some x ∧ blkF f x = some x' ∧ h[b]? = some x')
  | [], H, hl, h, e, _, _ => by
    simp only [mergeOld, Option.some.injEq] at e; subst e
    exact ⟨rfl, fun _ _ => rfl, fun k b hg => by have := hg.1; simp at this⟩
  | (b0, o0) :: m, H, [], h, e, _, hl => by simp at hl
  | (b0, o0) :: m, H, x :: hl, h, e, hon, hlen => by
    have hrest : onceOwn m = true := by simp only [onceOwn, Bool.and_eq_true] at hon; exact hon.2
    have hlen' : m.length ≤ hl.length := by simpa using hlen
    simp only [mergeOld] at e
    -- whether the first was handed on to be written
    split at e
    · rename_i hgv
      have hg0 : ∃ blk : Blk, H[b0]? = some (some blk) ∧ blk.own = true ∧ o0 = true := by
        split at hgv
        · rename_i blk hb
          rw [nth_eq] at hb
          simp only [Bool.and_eq_true] at hgv
          exact ⟨blk, hb, hgv.1, hgv.2⟩
        · cases hgv
      obtain ⟨blk0, hb0, hown0, rfl⟩ := hg0
      split at e
      · rename_i x' hx'
        rw [setAt_eq] at e
        obtain ⟨i1, i2, i3⟩ := mergeOld_spec f e hrest hlen'
        have hne : ∀ k b, m[k]? = some (b, true) → b0 ≠ b := fun k b hk => onceOwn_spec hon 0 (k + 1) b0 b true rfl (by simpa using hk) (by omega)
        have hgave : ∀ k b, Gave (H.set b0 x') m k b ↔ Gave H m k b := by
          intro k b
          constructor
          · rintro ⟨h1, blk, h2, h3⟩
            have := hne k b h1
            rw [List.getElem?_set, if_neg this] at h2
            exact ⟨h1, blk, h2, h3⟩
          · rintro ⟨h1, blk, h2, h3⟩
            have := hne k b h1
            exact ⟨h1, blk, by rw [List.getElem?_set, if_neg this]; exact h2, h3⟩
        refine ⟨by rw [i1]; simp, fun i hi => ?_, fun k b hg => ?_⟩
        · rw [i2 i fun k hk => hi (k + 1) ⟨by simpa using ((hgave k i).1 hk).1, ((hgave k i).1 hk).2⟩]
          have : b0 ≠ i := fun e => hi 0 ⟨by simp [e], blk0, by rw [← e]; exact hb0, hown0⟩
          rw [List.getElem?_set, if_neg this]
        · cases k with
          | zero =>
            have h1 := hg.1
            simp at h1
            subst h1
            refine ⟨x, x', rfl, hx', ?_⟩
            rw [i2 b0 fun k hk => hne k b0 hk.1 rfl, List.getElem?_set, if_pos rfl]
            simp [some_lt hb0]
          | succ k =>
            have hg' : Gave H m k b := ⟨by simpa using hg.1, hg.2⟩
            simpa using i3 k b ((hgave k b).2 hg')
      · cases e
    · rename_i hgv
      obtain ⟨i1, i2, i3⟩ := mergeOld_spec f e hrest hlen'
      refine ⟨i1, fun i hi => i2 i fun k hk => hi (k + 1) ⟨by simpa using hk.1, hk.2⟩, fun k b hg => ?_⟩
      cases k with
      | zero =>
        exfalso
        obtain ⟨h1, blk, h2, h3⟩ := hg
        simp at h1
        obtain ⟨rfl, rfl⟩ := h1
        rw [nth_eq, h2] at hgv
        simp [h3] at hgv
      | succ k => simpa using i3 k b ⟨by simpa using hg.1, hg.2⟩

theorem allOwn_spec : ∀ {l : Heap}, allOwn l = true → ∀ (k : Nat) (b : Blk), l[k]? = some (some b) → b.own = true
  | [], _, k, b, h => by simp at h
  | none :: l, h, k, b, hk => by
    cases k with
    | zero => simp at hk
    | succ k => exact allOwn_spec (by simpa [allOwn] using h) k b (by simpa using hk)
  | some c :: l, h, k, b, hk => by
    simp only [allOwn, Bool.and_eq_true] at h
    cases k with
    | zero => simp at hk; subst hk; exact h.1
    | succ k => exact allOwn_spec h.2 k b (by simpa using hk)

theorem blkF_some {f : Nat → Nat} {x : Option Blk} {b : Blk} (h : blkF f x = some (some b)) : ∃ a : Blk, x = some a ∧ b.own = a.own ∧ a.c.reF f = some b.c ∧ (a.c.plainC = false → a.own = true) := by
  cases x with
  | none => simp [blkF] at h
  | some a =>
    simp only [blkF] at h
    cases hab : (a.own || a.c.plainC) with
    | false => simp [hab] at h
    | true =>
      simp only [hab, cond_true, Option.map_eq_some_iff, Option.some.injEq] at h
      obtain ⟨c, hc, rfl⟩ := h
      exact ⟨a, rfl, rfl, hc, fun hn => by rw [hn] at hab; simpa using hab⟩

/-- Behind a call: the caller's memory. -/
theorem Ext.back {ι : List Place} {H : Heap} {w w' : World} (hrh : RH ι H w) {m : List (Nat × Bool)} {ch hl H' : Heap} {l : List Place} (e : heapIo (m.map (·.1)) H m = some ch) (honce : onceOwn m = true)
    (hext : Ext (placesOf ι (m.map (·.1))) ch w (placesOf ι (m.map (·.1)) ++ l) hl w') (hm : merge (backN (m.map (·.1)) H.length) H m hl = some H') :
    Ext ι H w (ι ++ l) H' w' ∧ Ren (placesOf ι (m.map (·.1)) ++ l) (ι ++ l) (fun b => some (backN (m.map (·.1)) H.length b)) := by
  have hil := hrh.len
  obtain ⟨hrc, hownc, hhidc⟩ := hrh.hand e honce
  have hlt : ∀ b ∈ m.map (·.1), b < ι.length := by
    intro b hb
    obtain ⟨k, hk⟩ := List.getElem?_of_mem hb
    simp only [List.getElem?_map, Option.map_eq_some_iff] at hk
    obtain ⟨⟨b', o⟩, hk, rfl⟩ := hk
    have := (heapIo_get e k b' o hk).1
    omega
  have hpl : (placesOf ι (m.map (·.1))).length = m.length := by simp [placesOf]
  have hback1 : ∀ k b o, m[k]? = some (b, o) → backN (m.map (·.1)) H.length k = b := by
    intro k b o hk
    unfold backN
    rw [nth_eq]
    simp [hk]
  have hback2 : ∀ k, m.length ≤ k → backN (m.map (·.1)) H.length k = H.length + (k - m.length) := by
    intro k hk
    unfold backN
    rw [nth_eq, List.getElem?_eq_none (by simpa using hk)]
    simp
  have hren : Ren (placesOf ι (m.map (·.1)) ++ l) (ι ++ l) (fun b => some (backN (m.map (·.1)) H.length b)) := by
    refine ⟨fun k k' p hk hp => ?_⟩
    simp only [Option.some.injEq] at hk
    subst hk
    rcases Nat.lt_or_ge k m.length with h | h
    · rw [List.getElem?_append_left (by omega)] at hp
      obtain ⟨b, hb, hpb⟩ := placesOf_back hp hlt
      simp only [List.getElem?_map, Option.map_eq_some_iff] at hb
      obtain ⟨⟨b', o⟩, hk, rfl⟩ := hb
      rw [hback1 k b' o hk, List.getElem?_append_left (some_lt hpb)]
      exact hpb
    · rw [List.getElem?_append_right (by omega), hpl] at hp
      rw [hback2 k h, List.getElem?_append_right (by omega)]
      rw [← hp]; congr 1; omega
  refine ⟨?_, hren⟩
  generalize hf : backN (m.map (·.1)) H.length = f at *
  unfold merge at hm
  split at hm
  · rename_i h1 n hmo hmn
    cases hcnd : (Nat.ble m.length hl.length && allOwn (dropN m.length hl)) with
    | false => simp [hcnd] at hm
    | true =>
      simp only [hcnd, cond_true, Option.some.injEq] at hm
      subst hm
      simp only [Bool.and_eq_true] at hcnd
      have hle := Nat.le_of_ble_eq_true hcnd.1
      have hall := allOwn_spec hcnd.2
      rw [dropN_eq] at hmn hall
      obtain ⟨o1, o2, o3⟩ := mergeOld_spec f hmo honce hle
      have hrl := hext.rh
      have hl3 := hrl.len
      have hln : n.length = l.length := by
        rw [mapO_length hmn]
        simp only [List.length_drop]
        simp only [List.length_append, hpl] at hl3
        omega
      -- the callee's blocks, seen from the caller
      have gave : ∀ k b, Gave H m k b → ∃ (p : Place) (blk : Blk), ι[b]? = some p ∧ (placesOf ι (m.map (·.1)) ++ l)[k]? = some p ∧ H[b]? = some (some blk) ∧ blk.own = true ∧ f k = b := by
        rintro k b ⟨h1', blk, h2, h3⟩
        have hb := some_lt h2
        refine ⟨ι[b], blk, List.getElem?_eq_getElem (by omega), ?_, h2, h3, hback1 k b true h1'⟩
        rw [List.getElem?_append_left (by rw [hpl]; exact some_lt h1')]
        exact placesOf_get (by simp [h1']) (List.getElem?_eq_getElem (by omega))
      -- each live block of the new memory is an untouched old one or one of the callee's
      have cls : ∀ (i : Nat) (p : Place) (c : Blk), (ι ++ l)[i]? = some p → (h1 ++ n)[i]? = some (some c) →
          (ι[i]? = some p ∧ H[i]? = some (some c) ∧ (∀ k, ¬ Gave H m k i)) ∨
          (∃ (k : Nat) (a : Blk), f k = i ∧ (placesOf ι (m.map (·.1)) ++ l)[k]? = some p ∧ hl[k]? = some (some a) ∧ c.own = a.own ∧ a.c.reF f = some c.c ∧ (Gave H m k i ∨ (m.length ≤ k ∧ a.own = true)) ∧ (a.c.plainC = false → a.own = true)) := by
        intro i p c hp hc
        rcases Nat.lt_or_ge i H.length with hi | hi
        · rw [List.getElem?_append_left (by omega)] at hp
          rw [List.getElem?_append_left (by omega)] at hc
          by_cases hg : ∃ k, Gave H m k i
          · obtain ⟨k, hg⟩ := hg
            obtain ⟨p', blk, g1, g2, g3, g4, g5⟩ := gave k i hg
            obtain ⟨x, x', y1, y2, y3⟩ := o3 k i hg
            rw [y3] at hc; cases hc
            obtain ⟨a, rfl, b1, b2, b3⟩ := blkF_some y2
            rw [hp] at g1; cases g1
            exact .inr ⟨k, a, g5, g2, y1, b1, b2, .inl hg, b3⟩
          · rw [o2 i fun k hk => hg ⟨k, hk⟩] at hc
            exact .inl ⟨hp, hc, fun k hk => hg ⟨k, hk⟩⟩
        · rw [List.getElem?_append_right (by omega)] at hp
          rw [List.getElem?_append_right (by omega)] at hc
          have hil' : i - ι.length < l.length := some_lt hp
          obtain ⟨x, hx⟩ : ∃ x, (hl.drop m.length)[i - h1.length]? = some x := ⟨_, List.getElem?_eq_getElem (by have := some_lt hc; rw [mapO_length hmn] at this; exact this)⟩
          obtain ⟨y, hy1, hy2⟩ := mapO_get hmn _ x hx
          rw [hy2] at hc; cases hc
          obtain ⟨a, rfl, b1, b2, b3⟩ := blkF_some hy1
          refine .inr ⟨m.length + (i - H.length), a, ?_, ?_, ?_, b1, b2, .inr ⟨by omega, hall _ _ hx⟩, b3⟩
          · rw [hback2 _ (by omega)]; omega
          · rw [List.getElem?_append_right (by omega), hpl, ← hp]; congr 1; omega
          · rw [List.getElem?_drop] at hx; rw [← hx]; congr 1; omega
      -- the callee writes none of the untouched blocks
      have ownc : ∀ rb, Own (placesOf ι (m.map (·.1))) ch w rb → ∀ (i : Nat) (p : Place) (c : Blk), ι[i]? = some p → H[i]? = some (some c) → (∀ k, ¬ Gave H m k i) → p.blk ≠ some rb := by
        intro rb ho i p c hp hc hn
        rcases ho with ho | ⟨k, r, j, xs, v, k1, k2⟩
        · obtain ⟨b, q, blk, k, q1, q2, q3, q4, q5⟩ := hownc rb ho
          exact hrh.sep b i q p blk c rb q2 q3 q4 hp hc (fun e => hn k (by rw [← e]; exact ⟨q1, blk, q3, q4⟩)) q5
        · obtain ⟨b, o, own0, q1, q2, q3⟩ := hhidc _ _ _ _ _ _ k1
          have ho0 : own0 = true := (and_inv q3).1
          subst ho0
          exact hrh.hid.s2 _ _ _ _ _ _ q2 k2 i p c hp hc
      -- nor their hidden slices
      have ownh : ∀ rb, Own (placesOf ι (m.map (·.1))) ch w rb → ∀ i r j own xs v, HidCell ι H w i r j own xs v → (∀ k, ¬ Gave H m k i) → ¬ Inner v rb := by
        intro rb ho i r j own xs v hc hn hi
        rcases ho with ho | ⟨k, r', j', xs', v', k1, k2⟩
        · obtain ⟨b, q, blk, k, q1, q2, q3, q4, q5⟩ := hownc rb ho
          exact hrh.hid.s1 b q blk rb q2 q3 q4 q5 _ _ _ _ _ _ hc hi
        · obtain ⟨b, o, own0, q1, q2, q3⟩ := hhidc _ _ _ _ _ _ k1
          have ho0 : own0 = true ∧ o = true := and_inv q3
          obtain ⟨rfl, rfl⟩ := ho0
          obtain ⟨rfl, _, _⟩ := hrh.hid.s3 _ _ _ _ _ _ q2 k2 _ _ _ _ _ _ hc hi
          obtain ⟨q, blk, n, sz, g, o, rb', cs, e, f, z1, z2, z3, _⟩ := q2.ex
          exact hn k ⟨q1, blk, z2, z3⟩
      have clsH : ∀ i r j own xs v, HidCell (ι ++ l) (h1 ++ n) w' i r j own xs v →
          (HidCell ι H w i r j own xs v ∧ ∀ k, ¬ Gave H m k i) ∨ (own = true ∧ ∃ k, f k = i ∧ HidCell (placesOf ι (m.map (·.1)) ++ l) hl w' k r j true xs v) := by
        rintro i r j own xs v ⟨p, c, nn, sz, g, o, rb, cs, e', f', z1, z2, z3, z4, z5, z6, z7, z8, z9⟩
        rcases cls i p c z1 z2 with ⟨c1, c2, c3⟩ | ⟨k, a, c1, c2, c3, c4, c5, c6, c7⟩
        · refine .inl ⟨⟨p, c, nn, sz, g, o, rb, cs, e', f', c1, c2, z3, z4, z5, z6, z7, ?_, z9⟩, c3⟩
          rw [← hext.fr.block rb (hrh.lt i p c rb c1 c2 z7) fun ho => ownc rb ho i p c c1 c2 c3 z7]; exact z8
        · rw [reF_eq, z4] at c5
          obtain ⟨o2, c8⟩ := nst_ren c5
          have c9 := c7 (by rw [c8]; rfl)
          exact .inr ⟨by rw [← z3, c4, c9], k, c1, ⟨p, a, nn, sz, g, o2, rb, cs, e', f', c2, c3, c9, c8, z5, z6, z7, z8, z9⟩⟩
      have hownw : ∀ rb, Own (placesOf ι (m.map (·.1))) ch w rb → Own ι H w rb := by
        rintro rb (ho | ⟨k, r, j, xs, v, k1, k2⟩)
        · obtain ⟨b, q, blk, k, q1, q2, q3, q4, q5⟩ := hownc rb ho
          exact .inl ⟨b, q, blk, q2, q3, q4, q5⟩
        · obtain ⟨b, o, own0, q1, q2, q3⟩ := hhidc _ _ _ _ _ _ k1
          have ho0 : own0 = true := (and_inv q3).1
          subst ho0
          exact .inr ⟨b, r, j, xs, v, q2, k2⟩
      refine ⟨⟨l, rfl⟩, ⟨by simp [hil, o1, hln], ?_, ?_, ?_, ?_⟩, ?_, ?_⟩
      · intro i p c hp hc
        rcases cls i p c hp hc with ⟨c1, c2, c3⟩ | ⟨k, a, c1, c2, c3, c4, c5, c6, c7⟩
        · refine (hrh.blk i p c c1 c2).of_heap (fun b q hb => by rw [List.getElem?_append_left (some_lt hb)]; exact hb) fun rb hrb hlt' => ?_
          exact hext.fr.block rb hlt' fun ho => ownc rb ho i p c c1 c2 c3 hrb
        · rw [reF_eq] at c5
          obtain ⟨co, cc⟩ := c
          exact (hrl.blk k p a c2 c3).ren (renV_rvF1 f) c5 hren (fun ho => by simp only at c4; rw [← c4]; exact ho)
      · intro i j p q c d rb hp hc ho hq hd hij hrb
        rcases cls i p c hp hc with ⟨c1, c2, c3⟩ | ⟨k, a, c1, c2, c3, c4, c5, c6, c7⟩
        · rcases cls j q d hq hd with ⟨d1, d2, d3⟩ | ⟨k', a', d1, d2, d3, d4, d5, d6, d7⟩
          · exact hrh.sep i j p q c d rb c1 c2 ho d1 d2 hij hrb
          · intro hqb
            rcases d6 with hg | ⟨hge, hown⟩
            · obtain ⟨p', blk, g1, g2, g3, g4, g5⟩ := gave k' j hg
              rw [d2] at g2; cases g2
              exact hrh.sep i j p q c blk rb c1 c2 ho g1 g3 hij hrb hqb
            · rcases hext.fresh rb (.inl ⟨k', q, a', d2, d3, hown, hqb⟩) with h' | h'
              · exact ownc rb h' i p c c1 c2 c3 hrb
              · have := hrh.lt i p c rb c1 c2 hrb; omega
        · have hao : a.own = true := by rw [← c4]; exact ho
          rcases cls j q d hq hd with ⟨d1, d2, d3⟩ | ⟨k', a', d1, d2, d3, d4, d5, d6, d7⟩
          · intro hqb
            rcases hext.fresh rb (.inl ⟨k, p, a, c2, c3, hao, hrb⟩) with h' | h'
            · exact ownc rb h' j q d d1 d2 d3 hqb
            · have := hrh.lt j q d rb d1 d2 hqb; omega
          · exact hrl.sep k k' p q a a' rb c2 c3 hao d2 d3 (fun e => hij (by rw [← c1, ← d1, e])) hrb
      · intro i p c rb hp hc hrb
        rcases cls i p c hp hc with ⟨c1, c2, c3⟩ | ⟨k, a, c1, c2, c3, c4, c5, c6, c7⟩
        · exact Nat.lt_of_lt_of_le (hrh.lt i p c rb c1 c2 hrb) hext.fr.size
        · exact hrl.lt k p a rb c2 c3 hrb
      · refine ⟨?_, ?_, ?_, ?_, ?_⟩
        · intro i r j own xs v hc
          rcases clsH _ _ _ _ _ _ hc with ⟨c1, c2⟩ | ⟨rfl, k, c1, c2⟩
          · exact (hrh.hid.ok _ _ _ _ _ _ c1).of_heap id fun rb hi hlt' => hext.fr.block rb hlt' fun ho => ownh rb ho _ _ _ _ _ _ c1 c2 hi
          · exact hrl.hid.ok _ _ _ _ _ _ c2
        · intro i r j own xs v rb hc hi
          rcases clsH _ _ _ _ _ _ hc with ⟨c1, c2⟩ | ⟨rfl, k, c1, c2⟩
          · exact Nat.lt_of_lt_of_le (hrh.hid.lt _ _ _ _ _ _ _ c1 hi) hext.fr.size
          · exact hrl.hid.lt _ _ _ _ _ _ _ c2 hi
        · intro i p b rb hp hb ho hrb i' r j own xs v hc hi
          rcases cls i p b hp hb with ⟨c1, c2, c3⟩ | ⟨k, a, c1, c2, c3, c4, c5, c6, c7⟩
          · rcases clsH _ _ _ _ _ _ hc with ⟨d1, d2⟩ | ⟨rfl, k', d1, d2⟩
            · exact hrh.hid.s1 i p b rb c1 c2 ho hrb _ _ _ _ _ _ d1 hi
            · rcases hext.fresh rb (.inr ⟨_, _, _, _, _, d2, hi⟩) with h' | h'
              · exact ownc rb h' i p b c1 c2 c3 hrb
              · have := hrh.lt i p b rb c1 c2 hrb; omega
          · have hao : a.own = true := by rw [← c4]; exact ho
            rcases clsH _ _ _ _ _ _ hc with ⟨d1, d2⟩ | ⟨rfl, k', d1, d2⟩
            · rcases hext.fresh rb (.inl ⟨k, p, a, c2, c3, hao, hrb⟩) with h' | h'
              · exact ownh rb h' _ _ _ _ _ _ d1 d2 hi
              · have := hrh.hid.lt _ _ _ _ _ _ _ d1 hi; omega
            · exact hrl.hid.s1 k p a rb c2 c3 hao hrb _ _ _ _ _ _ d2 hi
        · intro i r j xs v rb hc hi i' q c hq hcq hqb
          rcases clsH _ _ _ _ _ _ hc with ⟨d1, d2⟩ | ⟨_, k', d1, d2⟩
          · rcases cls i' q c hq hcq with ⟨c1, c2, c3⟩ | ⟨k, a, c1, c2, c3, c4, c5, c6, c7⟩
            · exact hrh.hid.s2 _ _ _ _ _ _ d1 hi i' q c c1 c2 hqb
            · rcases c6 with hg | ⟨hge, hown⟩
              · obtain ⟨p', blk, g1, g2, g3, g4, g5⟩ := gave k i' hg
                rw [c2] at g2; cases g2
                exact hrh.hid.s2 _ _ _ _ _ _ d1 hi i' q blk g1 g3 hqb
              · rcases hext.fresh rb (.inl ⟨k, q, a, c2, c3, hown, hqb⟩) with h' | h'
                · exact ownh rb h' _ _ _ _ _ _ d1 d2 hi
                · have := hrh.hid.lt _ _ _ _ _ _ _ d1 hi; omega
          · rcases cls i' q c hq hcq with ⟨c1, c2, c3⟩ | ⟨k, a, c1, c2, c3, c4, c5, c6, c7⟩
            · rcases hext.fresh rb (.inr ⟨_, _, _, _, _, d2, hi⟩) with h' | h'
              · exact ownc rb h' i' q c c1 c2 c3 hqb
              · have := hrh.lt i' q c rb c1 c2 hqb; omega
            · exact hrl.hid.s2 _ _ _ _ _ _ d2 hi k q a c2 c3 hqb
        · intro i r j xs v rb hc hi i' r' j' own xs' v' hc' hi'
          rcases clsH _ _ _ _ _ _ hc with ⟨d1, d2⟩ | ⟨_, k, d1, d2⟩
          · rcases clsH _ _ _ _ _ _ hc' with ⟨c1, c2⟩ | ⟨_, k', c1, c2⟩
            · exact hrh.hid.s3 _ _ _ _ _ _ d1 hi _ _ _ _ _ _ c1 hi'
            · exfalso
              rcases hext.fresh rb (.inr ⟨_, _, _, _, _, c2, hi'⟩) with h' | h'
              · exact ownh rb h' _ _ _ _ _ _ d1 d2 hi
              · have := hrh.hid.lt _ _ _ _ _ _ _ d1 hi; omega
          · rcases clsH _ _ _ _ _ _ hc' with ⟨c1, c2⟩ | ⟨_, k', c1, c2⟩
            · exfalso
              rcases hext.fresh rb (.inr ⟨_, _, _, _, _, d2, hi⟩) with h' | h'
              · exact ownh rb h' _ _ _ _ _ _ c1 c2 hi'
              · have := hrh.hid.lt _ _ _ _ _ _ _ c1 hi'; omega
            · obtain ⟨rfl, e2, e3⟩ := hrl.hid.s3 _ _ _ _ _ _ d2 hi _ _ _ _ _ _ c2 hi'
              exact ⟨by rw [← c1, ← d1], e2, e3⟩
      · exact hext.fr.mono hownw
      · rintro rb (⟨i, p, c, hp, hc, ho, hrb⟩ | ⟨i, r, j, xs, v, hc, hi⟩)
        · rcases cls i p c hp hc with ⟨c1, c2, c3⟩ | ⟨k, a, c1, c2, c3, c4, c5, c6, c7⟩
          · exact .inl (.inl ⟨i, p, c, c1, c2, ho, hrb⟩)
          · rcases hext.fresh rb (.inl ⟨k, p, a, c2, c3, by rw [← c4]; exact ho, hrb⟩) with h' | h'
            · exact .inl (hownw rb h')
            · exact .inr h'
        · rcases clsH _ _ _ _ _ _ hc with ⟨c1, c2⟩ | ⟨_, k, c1, c2⟩
          · exact .inl (.inr ⟨i, r, j, xs, v, c1, hi⟩)
          · rcases hext.fresh rb (.inr ⟨_, _, _, _, _, c2, hi⟩) with h' | h'
            · exact .inl (hownw rb h')
            · exact .inr h'
  · cases hm

end Go.Sim
