/- A pure account of the values, floats and memory of a run, and how it stands to the model's (part 9: the evaluator of single operations is right: slice literals, slices, append). Conditions: none. -/
import Derived.Test.YtgjdkhocnnoimaaS8
namespace Go.Sim
open Go

section
variable {P : Program} {ι : List Place} {w : World}

/-! ### Slice literals -/

theorem inOrder_spec : ∀ {k : Nat} {parts : List (Nat × Value)} {vs : List Value}, inOrder k parts = some vs →
    parts.map (·.2) = vs ∧ ∀ j, j < parts.length → (parts.map (·.1))[j]? = some (k + j)
  | k, [], vs, h => by simp [inOrder] at h; subst h; exact ⟨rfl, fun j hj => by simp at hj⟩
  | k, (i, v) :: parts, vs, h => by
    simp only [inOrder] at h
    cases hb : Nat.beq i k with
    | false => simp [hb] at h
    | true =>
      have hi := Nat.eq_of_beq_eq_true hb
      simp only [hb, cond_true, Option.map_eq_some_iff] at h
      obtain ⟨r, hr, rfl⟩ := h
      obtain ⟨h1, h2⟩ := inOrder_spec hr
      refine ⟨by simp [h1], fun j hj => ?_⟩
      cases j with
      | zero => simp [hi]
      | succ j => simpa [Nat.add_assoc, Nat.add_comm 1 j] using h2 j (by simpa using hj)

/-- Rows filled in one after another. -/
theorem fill_rows (size : Nat) : ∀ (vs : List Value) (k : Nat) (parts : List (Nat × Value)) (cells : Array Value), parts.map (·.2) = vs → (∀ j, j < parts.length → (parts.map (·.1))[j]? = some (k + j)) →
    (∀ v ∈ vs, v.cells.size = size) → cells.size = (k + vs.length) * size →
    ∃ r, Instr.fill (fun i => some (i * size, size)) cells parts = some r ∧ r.toList = cells.toList.take (k * size) ++ vs.flatMap (fun v => v.cells.toList)
  | [], k, parts, cells, hp, _, _, hs => by
    simp at hp; subst hp
    refine ⟨cells, rfl, ?_⟩
    rw [List.take_of_length_le (by simp at hs ⊢; omega)]
    simp
  | v :: vs, k, [], cells, hp, _, _, _ => by simp at hp
  | v :: vs, k, (i, u) :: parts, cells, hp, hk, hz, hs => by
    simp only [List.map_cons, List.cons.injEq] at hp
    obtain ⟨rfl, hp⟩ := hp
    have hi : i = k := by have := hk 0 (by simp); simpa using this
    subst hi
    have hu : u.cells.size = size := hz u (by simp)
    have hle : i * size + size ≤ cells.size := by
      rw [hs]; simp only [List.length_cons]
      rw [show i + (vs.length + 1) = i + 1 + vs.length from by omega, Nat.add_mul, Nat.add_mul]
      omega
    rw [fill_step _ cells i u parts (i * size) size rfl hu hle]
    obtain ⟨r, h1, h2⟩ := fill_rows size vs (i + 1) parts (splice cells.toList (i * size) u.cells.toList).toArray hp
      (fun j hj => by have := hk (j + 1) (by simpa using hj); simpa [Nat.add_assoc, Nat.add_comm 1 j] using this)
      (fun v hv => hz v (by simp [hv])) (by
        simp only [List.size_toArray]
        rw [length_splice _ _ _ (by simp; omega)]
        simp only [Array.length_toList, hs, List.length_cons]
        congr 1; omega)
    refine ⟨r, h1, ?_⟩
    rw [h2]
    simp only [List.flatMap_cons, ← List.append_assoc]
    congr 1
    unfold splice
    rw [Nat.add_mul, Nat.one_mul]
    have e1 : (cells.toList.take (i * size) ++ u.cells.toList).length = i * size + size := by simp; omega
    rw [List.take_append_of_le_length (by omega), List.take_of_length_le (by omega)]

theorem litGo {k : FloatKind} : ∀ {l : List Value} {xs : List Nat}, litCont.go k l = some xs → l = xs.map (Value.float k)
  | [], xs, h => by simp [litCont.go] at h; subst h; rfl
  | v :: l, xs, h => by
    cases v <;> simp only [litCont.go] at h <;> try (cases h; done)
    rename_i k' x
    cases hk : sameF k k' with
    | false => simp [hk] at h
    | true =>
      obtain rfl := sameF_eq hk
      simp only [hk, cond_true, Option.map_eq_some_iff] at h
      obtain ⟨r, hr, rfl⟩ := h
      rw [litGo hr]; rfl

theorem litGoI {k : IntKind} : ∀ {l : List Value} {xs : List Int}, litCont.goI k l = some xs → l = xs.map (Value.int k)
  | [], xs, h => by simp [litCont.goI] at h; subst h; rfl
  | v :: l, xs, h => by
    cases v <;> simp only [litCont.goI] at h <;> try (cases h; done)
    rename_i k' x
    cases hk : sameI k k' with
    | false => simp [hk] at h
    | true =>
      obtain rfl := sameI_eq hk
      simp only [hk, cond_true, Option.map_eq_some_iff] at h
      obtain ⟨r, hr, rfl⟩ := h
      rw [litGoI hr]; rfl

theorem litGoC {k : FloatKind} : ∀ {l : List Value} {xs : List (Nat × Nat)}, litCont.goC k l = some xs → l = xs.map (fun p => Value.complex k p.1 p.2)
  | [], xs, h => by simp [litCont.goC] at h; subst h; rfl
  | v :: l, xs, h => by
    cases v <;> simp only [litCont.goC] at h <;> try (cases h; done)
    rename_i k' x y
    cases hk : sameF k k' with
    | false => simp [hk] at h
    | true =>
      obtain rfl := sameF_eq hk
      simp only [hk, cond_true, Option.map_eq_some_iff] at h
      obtain ⟨r, hr, rfl⟩ := h
      rw [litGoC hr]; rfl

theorem litCont_plain {vs : List Value} {c : Cont} (h : litCont vs = some c) : c.plainC = true := by
  unfold litCont at h
  split at h
  · cases h
  · simp only [Option.map_eq_some_iff] at h; obtain ⟨_, _, rfl⟩ := h; rfl
  · simp only [Option.map_eq_some_iff] at h; obtain ⟨_, _, rfl⟩ := h; rfl
  · simp only [Option.map_eq_some_iff] at h; obtain ⟨_, _, rfl⟩ := h; rfl
  · simp only [Option.map_eq_some_iff] at h; obtain ⟨_, _, rfl⟩ := h; rfl
  · cases h

/-- What a slice literal's content is: row by row the cells of its values, each of one cell. -/
theorem litCont_spec {vs : List Value} {c : Cont} (h : litCont vs = some c) : c.rows = vs.length ∧ (∀ r v, vs[r]? = some v → c.row r = cellsV v ∧ (cellsV v).length = c.sz ∧ allP one1 (cellsV v) = true) := by
  cases vs with
  | nil => cases h
  | cons v vs =>
    cases v <;> simp only [litCont] at h <;> try (cases h; done)
    case float k x =>
      simp only [Option.map_eq_some_iff] at h
      obtain ⟨r, hr, rfl⟩ := h
      rw [litGo hr]
      refine ⟨by simp [Cont.rows], fun i v hv => ?_⟩
      have : (List.map (Value.float k) (x :: r))[i]? = some v := by simpa using hv
      rw [List.getElem?_map, Option.map_eq_some_iff] at this
      obtain ⟨y, hy, rfl⟩ := this
      exact ⟨by simp only [Cont.row, List.getD_eq_getElem?_getD, hy]; rfl, rfl, rfl⟩
    case int k x =>
      simp only [Option.map_eq_some_iff] at h
      obtain ⟨r, hr, rfl⟩ := h
      rw [litGoI hr]
      refine ⟨by simp [Cont.rows], fun i v hv => ?_⟩
      have : (List.map (Value.int k) (x :: r))[i]? = some v := by simpa using hv
      rw [List.getElem?_map, Option.map_eq_some_iff] at this
      obtain ⟨y, hy, rfl⟩ := this
      exact ⟨by simp only [Cont.row, List.getD_eq_getElem?_getD, hy]; rfl, rfl, rfl⟩
    case complex k x y =>
      simp only [Option.map_eq_some_iff] at h
      obtain ⟨r, hr, rfl⟩ := h
      rw [litGoC hr]
      refine ⟨by simp [Cont.rows], fun i v hv => ?_⟩
      have : (List.map (fun p : Nat × Nat => Value.complex k p.1 p.2) ((x, y) :: r))[i]? = some v := by simpa using hv
      rw [List.getElem?_map, Option.map_eq_some_iff] at this
      obtain ⟨p, hp, rfl⟩ := this
      exact ⟨by simp only [Cont.row, List.getD_eq_getElem?_getD, hp]; rfl, rfl, rfl⟩
    case agg cs =>
      obtain ⟨cs⟩ := cs
      cases vs with
      | nil =>
        simp only [Option.map_eq_some_iff] at h
        obtain ⟨ss, hss, rfl⟩ := h
        have e := scsOf_eq hss
        refine ⟨rfl, fun i v hv => ?_⟩
        cases i with
        | succ i => simp at hv
        | zero =>
          simp at hv; subst hv
          refine ⟨by simp [Cont.row, cellsV, e], by simp [cellsV, Cont.sz, e], ?_⟩
          simp only [cellsV, e]
          clear hss e
          induction ss with
          | nil => rfl
          | cons s ss ih => simp only [List.map_cons, allP, Bool.and_eq_true]; exact ⟨by cases s <;> rfl, ih⟩
      | cons v vs => cases h

theorem flatMap_get (sz : Nat) : ∀ (vs : List Value) (r j : Nat) (v : Value), (∀ v ∈ vs, v.cells.size = sz) → vs[r]? = some v → j < sz →
    (vs.flatMap fun v => v.cells.toList)[r * sz + j]? = v.cells.toList[j]?
  | [], r, j, v, _, h, _ => by simp at h
  | u :: vs, 0, j, v, hz, h, hj => by
    simp at h; subst h
    have := hz u (by simp)
    simp only [List.flatMap_cons, Nat.zero_mul, Nat.zero_add]
    exact List.getElem?_append_left (by simp; omega)
  | u :: vs, r + 1, j, v, hz, h, hj => by
    have hu := hz u (by simp)
    simp only [List.flatMap_cons]
    rw [List.getElem?_append_right (by simp only [Array.length_toList, hu, Nat.add_mul]; omega)]
    rw [← flatMap_get sz vs r j v (fun v hv => hz v (by simp [hv])) (by simpa using h) hj]
    congr 1
    simp only [Array.length_toList, hu, Nat.add_mul]; omega

theorem flatMap_length (sz : Nat) : ∀ (vs : List Value), (∀ v ∈ vs, v.cells.size = sz) → (vs.flatMap fun v => v.cells.toList).length = vs.length * sz
  | [], _ => by simp
  | u :: vs, hz => by
    have hu := hz u (by simp)
    simp only [List.flatMap_cons, List.length_append, Array.length_toList, hu, flatMap_length sz vs (fun v hv => hz v (by simp [hv])), List.length_cons, Nat.add_mul]
    omega

/-- A block that has no cell. -/
theorem Ext.empty {H : Heap} (h : RH ι H w) (c : Cont) (o : Bool) (hr : c.rows = 0) (hpl : c.plainC = true) : Ext ι H w (ι ++ [⟨none, 0, c.sz, 0⟩]) (H ++ [some ⟨o, c⟩]) w := by
  have hsub : Sub ι (ι ++ [(⟨none, 0, c.sz, 0⟩ : Place)]) := fun b p hb => getElem?_snoc_lt hb
  have hlen := h.len
  obtain ⟨hh1, hh2⟩ := hid_snoc (q := ⟨none, 0, c.sz, 0⟩) (b := some ⟨o, c⟩) (w' := w) h (fun c' hc' => by cases hc'; exact hpl) (fun rb hr => rfl) (Nat.le_refl _) (fun rb hrb => by cases hrb)
  refine ⟨⟨_, rfl⟩, ⟨by simp [h.len], ?_, ?_, ?_, hh1⟩, Fr.refl _ _, ?_⟩
  · intro i p b hp hb
    rcases getElem?_snoc hp with ⟨hp, hi⟩ | ⟨hi, rfl⟩
    · rcases getElem?_snoc hb with ⟨hb, _⟩ | ⟨hi', _⟩
      · exact (h.blk i p b hp hb).of_heap hsub fun _ _ _ => rfl
      · omega
    · rcases getElem?_snoc hb with ⟨hb, hi'⟩ | ⟨_, hb⟩
      · omega
      · simp at hb; subst hb
        refine ⟨rfl, fun r hr' => by simp [hr] at hr', fun r j hr' _ => by simp [hr] at hr', fun _ rb hrb => (by cases hrb), fun r k hk => by rw [vias_plain hpl] at hk; cases hk⟩
  · intro i j p q b c' rb hp hb ho hq hc' hij hrb
    rcases getElem?_snoc hp with ⟨hp, hi⟩ | ⟨hi, rfl⟩
    · rcases getElem?_snoc hb with ⟨hb, _⟩ | ⟨hi', _⟩
      · rcases getElem?_snoc hq with ⟨hq, hj⟩ | ⟨hj, rfl⟩
        · rcases getElem?_snoc hc' with ⟨hc', _⟩ | ⟨hj', _⟩
          · exact h.sep i j p q b c' rb hp hb ho hq hc' hij hrb
          · omega
        · simp
      · omega
    · cases hrb
  · intro i p b rb hp hb hrb
    rcases getElem?_snoc hp with ⟨hp, hi⟩ | ⟨hi, rfl⟩
    · rcases getElem?_snoc hb with ⟨hb, _⟩ | ⟨hi', _⟩
      · exact h.lt i p b rb hp hb hrb
      · omega
    · cases hrb
  · rintro rb (⟨i, p, b, hp, hb, ho, hrb⟩ | ho2)
    rotate_left
    · exact .inl (.inr (hh2 rb ho2))
    rcases getElem?_snoc hp with ⟨hp, hi⟩ | ⟨hi, rfl⟩
    · rcases getElem?_snoc hb with ⟨hb, _⟩ | ⟨hi', _⟩
      · exact .inl (.inl ⟨i, p, b, hp, hb, ho, hrb⟩)
      · omega
    · cases hrb

theorem evBuildSlice_sound {H H' : Heap} (hrh : RH ι H w) {t : TypeId} {len : Nat} {parts parts' : List (Nat × Value)} {v : Value} (h : evBuildSlice P H t len parts = some (v, H'))
    (he : parts'.map (·.1) = parts.map (·.1)) (hv : VRs ι (parts.map (·.2)) (parts'.map (·.2))) : Runs P (Instr.buildSlice t len parts'.toArray) ι H w v H' := by
  unfold evBuildSlice at h
  split at h
  · rename_i el hu
    split at h
    · rename_i i vs hi hvs
      cases hcnd : (Nat.beq vs.length len && Nat.ble (len * i.size) 16777216 && Nat.blt 0 i.size) with
      | false => simp [hcnd] at h
      | true =>
        simp only [hcnd, cond_true] at h
        simp only [Bool.and_eq_true] at hcnd
        have hlen := Nat.eq_of_beq_eq_true hcnd.1.1
        have hle := Nat.le_of_ble_eq_true hcnd.1.2
        have hpos : 0 < i.size := Nat.le_of_ble_eq_true hcnd.2
        obtain ⟨o1, o2⟩ := inOrder_spec hvs
        have hlp : parts.length = vs.length := by rw [← o1]; simp
        have hlp' : parts'.length = parts.length := by have := congrArg List.length he; simpa using this
        split at h
        · -- no value
          have hp0 : parts' = [] := List.eq_nil_of_length_eq_zero (by omega)
          subst hp0
          split at h
          · rename_i z hz
            split at h
            · rename_i ct hct
              cases hc2 : Nat.beq ct.sz i.size with
              | false => simp [hc2] at h
              | true =>
                simp only [hc2, cond_true, Option.some.injEq, Prod.mk.injEq] at h
                obtain ⟨rfl, rfl⟩ := h
                obtain ⟨z1, z2, z3, z4, z5⟩ := zeros_spec hct
                have hext := Ext.alloc hrh ct #[] el 0 (by omega) (by simp) (fun r hr => by omega) (fun j u hu => by simp at hu) (fun r j hr => by omega) (zeros_plain hct)
                refine ⟨_, _, _, ?_, .slice0 (x := some ⟨w.heap.size, 0, none⟩) (fun _ => by simp), hext⟩
                simp [Instr.buildSlice, run_underlying hu, sizeOf, typeInfo, hi, Instr.fill, newRow, Array.range_zero']
            · cases h
          · cases h
        · rename_i len'
          split at h
          · rename_i ct hct
            cases hc2 : (Nat.beq ct.sz i.size && i.zero.isSome && Nat.beq (i.zero.getD undef).cells.size i.size) with
            | false => simp [hc2] at h
            | true =>
              simp only [hc2, cond_true, Option.some.injEq, Prod.mk.injEq] at h
              obtain ⟨rfl, rfl⟩ := h
              simp only [Bool.and_eq_true] at hc2
              have hsz := Nat.eq_of_beq_eq_true hc2.1.1
              have hzs := Nat.eq_of_beq_eq_true hc2.2
              obtain ⟨z, hz⟩ := Option.isSome_iff_exists.1 hc2.1.2
              rw [hz] at hzs
              simp only [Option.getD_some] at hzs
              obtain ⟨s1, s2⟩ := litCont_spec hct
              rw [o1] at hv
              have hreal : ∀ (r : Nat) (v' : Value), (parts'.map (·.2))[r]? = some v' → ∃ v, vs[r]? = some v ∧ VR ι v v' := by
                intro r v' hr
                have hl := hv.length
                have hr' := some_lt hr
                obtain ⟨u, hu', hvr⟩ := hv.get r _ (List.getElem?_eq_getElem (show r < vs.length by omega))
                rw [hr] at hu'; cases hu'
                exact ⟨_, List.getElem?_eq_getElem (show r < vs.length by omega), hvr⟩
              have hsizes : ∀ v ∈ parts'.map (·.2), v.cells.size = i.size := by
                intro v' hv'
                obtain ⟨r, hr⟩ := List.getElem?_of_mem hv'
                obtain ⟨v, g1, g2⟩ := hreal r v' hr
                have := (s2 r v g1).2.1
                rw [g2.cells.length] at this
                simp at this
                omega
              have hvl := hv.length
              obtain ⟨r, f1, f2⟩ := fill_rows i.size (parts'.map (·.2)) 0 parts' ((Array.range ((len' + 1) * i.size)).map (z.cells[· % z.cells.size]!)) rfl
                (fun j hj => by have := o2 j (by omega); rw [he]; simpa using this) hsizes (by simp only [Array.size_map, Array.size_range]; congr 1; omega)
              simp only [Nat.zero_mul, List.take_zero, List.nil_append] at f2
              have hn0 : ¬ ((len' + 1) * i.size = 0) := by
                rw [Nat.mul_eq_zero]; omega
              have hext := Ext.alloc hrh ct r el (len' + 1) (by omega) (by
                  have := congrArg List.length f2
                  rw [flatMap_length i.size _ hsizes] at this
                  simp only [Array.length_toList] at this
                  rw [this, hsz]; congr 1; omega)
                (fun k hk => by
                  obtain ⟨v, hv1⟩ : ∃ v, vs[k]? = some v := ⟨_, List.getElem?_eq_getElem (by omega)⟩
                  obtain ⟨q1, q2, _⟩ := s2 k v hv1
                  rw [q1, q2])
                (fun j u hu' => by
                  have hu2 : r.toList[j]? = some u := by simpa using hu'
                  rw [f2] at hu2
                  have hm := List.mem_of_getElem? hu2
                  rw [List.mem_flatMap] at hm
                  obtain ⟨v', hv', hm⟩ := hm
                  obtain ⟨k, hk⟩ := List.getElem?_of_mem hv'
                  obtain ⟨v, g1, g2⟩ := hreal k v' hk
                  exact g2.cells.ones (s2 k v g1).2.2 u hm)
                (fun k j hk hj => by
                  obtain ⟨v', hv1⟩ : ∃ v', (parts'.map (·.2))[k]? = some v' := ⟨_, List.getElem?_eq_getElem (by simp; omega)⟩
                  obtain ⟨v, g1, g2⟩ := hreal k v' hv1
                  obtain ⟨q1, q2, _⟩ := s2 k v g1
                  have hj' : j < (cellsV v).length := by omega
                  obtain ⟨u', hu', hvr⟩ := g2.cells.get j _ (List.getElem?_eq_getElem hj')
                  refine ⟨u', (cellsV v)[j], ?_, by rw [q1]; exact List.getElem?_eq_getElem hj', hvr⟩
                  have h3 := flatMap_get i.size _ k j v' hsizes hv1 (by omega)
                  rw [← f2] at h3
                  rw [← hu', hsz]
                  simpa using h3) (litCont_plain hct)
              refine ⟨_, .slice (some ⟨w.heap.size, 0, none⟩) (len' + 1) (len' + 1), _, ?_, ?_, hext⟩
              · have hng : ¬ (16777216 < (len' + 1) * i.size) := Nat.not_lt.2 hle
                simp [Instr.buildSlice, run_underlying hu, sizeOf, typeInfo, zeroValue, hi, hz, newRow, hng, hn0]
                rw [show (Instr.fill (fun i_1 => some (i_1 * i.size, i.size)) (Array.map (fun x => z.cells[x % z.cells.size]!) (Array.range ((len' + 1) * i.size))) parts') = some r from f1]
                rfl
              · have := VR.slice (ι := ι ++ [⟨some w.heap.size, 0, ct.sz, len' + 1⟩]) (b := H.length) (i := 0) (l := len' + 1) (c := 1) (c' := len' + 1) (getElem?_new _ _ _ hrh.len) rfl (by omega) (by simp) (by omega)
                simpa using this
          · cases h
    · cases h
  · cases h

/-! ### Slices of slices -/

theorem run_bound {x : Value} {k : IntKind} {n y : Nat} (hx : x = .int k (n : Int)) (h : n ≤ y) (code : BoundsCode) : (Instr.sliceBound x y code).run P w = .ok n w := by
  subst hx
  simp [Instr.sliceBound, asIntOf, h]

theorem evSlice_sound {H : Heap} {t : TypeId} {x v x' : Value} {lo hi mx lo' hi' mx' : Option Value} {nlo nhi : Nat} {vc : List Prop} (h : evSlice P H t x lo hi mx nlo nhi = some (v, vc)) (hv : AllP vc)
    (hx : VR ι x x') (hlo : ∀ u, lo = some u → ∃ u', lo' = some u' ∧ VR ι u u') (hlo0 : lo = none → lo' = none)
    (hhi : ∀ u, hi = some u → ∃ u', hi' = some u' ∧ VR ι u u') (hhi0 : hi = none → hi' = none)
    (hmx : ∀ u, mx = some u → ∃ u', mx' = some u' ∧ VR ι u u') (hmx0 : mx = none → mx' = none) (hrh : RH ι H w) :
    Quiet P (Instr.sliceAt t x' lo' hi' mx') ι w v := by
  unfold evSlice at h
  split at h
  · rename_i el b r l c hu
    split at h
    · rename_i blk hblk
      rw [blkAt_eq] at hblk
      cases hs : sizeOk P el blk.c.sz with
      | false => simp [hs] at h
      | true =>
        simp only [hs, cond_true] at h
        obtain ⟨hin, hcs⟩ := sizeOk_eq hs
        have hsz := run_sizeOf' hin w
        have allp : ∀ (a b : List Prop), AllP (a ++ b) → AllP a ∧ AllP b := by
          intro a b
          induction a with
          | nil => intro h; exact ⟨trivial, h⟩
          | cons p a ih => intro h; exact ⟨⟨h.1, (ih h.2).1⟩, (ih h.2).2⟩
        -- a bound that is told
        have bnd : ∀ (o o' : Option Value) (n d : Nat) (vb : List Prop), evSlice.bound o n d = some vb → AllP vb → (∀ u, o = some u → ∃ u', o' = some u' ∧ VR ι u u') → (o = none → o' = none) →
            (o' = none ∧ n = d) ∨ (∃ k, o' = some (.int k (n : Int))) := by
          intro o o' n d vb hb hvb h1 h0
          unfold evSlice.bound at hb
          split at hb
          · rename_i k i
            simp only [Option.some.injEq] at hb; subst hb
            obtain ⟨u', e1, e2⟩ := h1 _ rfl
            cases e2
            exact .inr ⟨k, by rw [e1, hvb.1]⟩
          · simp only [Option.some.injEq] at hb; subst hb
            exact .inl ⟨h0 rfl, hvb.1⟩
          · cases hb
        -- the real slice
        have real : ∀ (c' : Nat) (a : Option Addr) (m : Option Value), x' = .slice a l c' → l ≤ c' → nlo ≤ nhi → nhi ≤ l →
            (lo' = none ∧ nlo = 0 ∨ ∃ k, lo' = some (.int k (nlo : Int))) → (hi' = none ∧ nhi = l ∨ ∃ k, hi' = some (.int k (nhi : Int))) →
            (mx' = none ∧ m = none ∨ (∃ k, mx' = some (.int k (nlo : Int)) ∧ nlo = nhi ∧ hi' ≠ none ∧ m ≠ none)) →
            ∃ a' c'', (Instr.sliceAt t x' lo' hi' mx').run P w = .ok (.slice a' (nhi - nlo) c'') w ∧
              (c'' = 0 ∧ (m ≠ none ∨ c' = nlo) ∨ (m = none ∧ c'' = c' - nlo ∧ a' = a.map (·.add (nlo * blk.c.sz)))) := by
          intro c' a m hx' hlc h1 h2 hl hh hm
          subst hx'
          rcases hm with ⟨hm, rfl⟩ | ⟨k, hm, e, hne, hm0⟩
          · -- no third bound
            have hb : (Instr.sliceBounds true l c' lo' hi' mx').run P w = .ok (nlo, nhi, c') w := by
              subst hm
              rcases hl with ⟨rfl, rfl⟩ | ⟨k1, rfl⟩ <;> rcases hh with ⟨rfl, rfl⟩ | ⟨k2, rfl⟩ <;>
                simp [Instr.sliceBounds, run_bound (P := P) (w := w) rfl (show nhi ≤ c' by omega), run_bound (P := P) (w := w) rfl h1]
            by_cases hcl : c' = nlo
            · subst hcl
              exact ⟨a, 0, by simp [Instr.sliceAt, Instr.slice, run_underlying hu, hb, hsz], .inl ⟨rfl, .inr rfl⟩⟩
            · exact ⟨a.map (·.add (nlo * blk.c.sz)), c' - nlo, by simp [Instr.sliceAt, Instr.slice, run_underlying hu, hb, hsz, hcl, hcs], .inr ⟨rfl, rfl, rfl⟩⟩
          · subst e
            have hb : (Instr.sliceBounds true l c' lo' hi' mx').run P w = .ok (nlo, nlo, nlo) w := by
              subst hm
              rcases hh with ⟨rfl, _⟩ | ⟨k2, rfl⟩
              · exact absurd rfl hne
              · rcases hl with ⟨rfl, e2⟩ | ⟨k1, rfl⟩
                · subst e2
                  simp [Instr.sliceBounds, Instr.sliceBound, asIntOf]
                · simp [Instr.sliceBounds, run_bound (P := P) (w := w) rfl (show nlo ≤ c' by omega), run_bound (P := P) (w := w) rfl (Nat.le_refl nlo)]
            exact ⟨a, 0, by simp [Instr.sliceAt, Instr.slice, run_underlying hu, hb, hsz], .inl ⟨rfl, .inl hm0⟩⟩
        split at h
        · -- no third bound
          rename_i vl vh hbl hbh
          simp only [Option.some.injEq, Prod.mk.injEq] at h
          obtain ⟨rfl, rfl⟩ := h
          obtain ⟨hv1, hv3⟩ := allp _ _ hv
          obtain ⟨hv1, hv2⟩ := allp _ _ hv1
          obtain ⟨g1, g2, _⟩ := hv3
          have b1 := bnd lo lo' nlo 0 vl hbl hv1 hlo hlo0
          have b2 := bnd _ hi' nhi l vh hbh hv2 hhi hhi0
          cases hx with
          | slice hp hb hl hcap h0 =>
            rename_i c' p rb
            obtain ⟨a', c'', e1, e2⟩ := real c' _ none rfl hl g1 g2 b1 b2 (.inl ⟨hmx0 rfl, rfl⟩)
            refine ⟨_, w, e1, Drawn.refl w, ?_⟩
            rcases e2 with ⟨rfl, e2⟩ | ⟨_, rfl, rfl⟩
            · have : c' = nlo := by rcases e2 with e2 | e2; exact absurd rfl e2; exact e2
              rw [show nhi - nlo = 0 from by omega]
              exact .slice0 (fun h => absurd h (by decide))
            · have hbk := hrh.blk b p blk hp hblk
              have := VR.slice (i := rowAdd r nlo) (l := nhi - nlo) (c := 1) (c' := c' - nlo) hp hb (by omega) (by rw [rowAdd_eq]; omega) (by omega)
              simp only [Option.map_some, add_eq]
              rw [rowAdd_eq, Nat.add_mul, ← Nat.add_assoc] at this
              rw [rowAdd_eq, ← hbk.sz]
              exact this
          | slice0 =>
            obtain ⟨a', c'', e1, e2⟩ := real 0 _ none rfl (Nat.le_refl 0) g1 g2 b1 b2 (.inl ⟨hmx0 rfl, rfl⟩)
            have : c'' = 0 := by rcases e2 with ⟨rfl, _⟩ | ⟨_, rfl, _⟩ <;> omega
            subst this
            refine ⟨_, w, e1, Drawn.refl w, ?_⟩
            rw [show nhi - nlo = 0 from by omega]
            exact .slice0 (fun h => absurd h (by decide))
        · rename_i vl vh hiv km m hbl hbh
          simp only [Option.some.injEq, Prod.mk.injEq] at h
          obtain ⟨rfl, rfl⟩ := h
          obtain ⟨hv1, hv3⟩ := allp _ _ hv
          obtain ⟨hv1, hv2⟩ := allp _ _ hv1
          obtain ⟨g1, g2, g3, _⟩ := hv3
          have b1 := bnd lo lo' nlo 0 vl hbl hv1 hlo hlo0
          have b2 := bnd _ hi' nhi l vh hbh hv2 hhi hhi0
          obtain ⟨mv, hm1, hm2⟩ := hmx _ rfl
          cases hm2
          have hmxx : (mx' = none ∧ (some (Value.int km m)) = none ∨ (∃ k, mx' = some (.int k (nlo : Int)) ∧ nlo = nhi ∧ hi' ≠ none ∧ (some (Value.int km m)) ≠ none)) → Quiet P (Instr.sliceAt t x' lo' hi' mx') ι w (.slice (some ⟨b, rowAdd r nlo, none⟩) (nhi - nlo) 0) := by
            intro hmx2
            have hlc : ∃ a c', x' = .slice a l c' ∧ l ≤ c' := by
              cases hx with
              | slice hp hb hl hcap h0 => exact ⟨_, _, rfl, hl⟩
              | slice0 => exact ⟨_, _, rfl, Nat.le_refl 0⟩
            obtain ⟨a, c', hx', hlc⟩ := hlc
            obtain ⟨a', c'', e1, e2⟩ := real c' a _ hx' hlc (by omega) g2 b1 b2 hmx2
            have : c'' = 0 := by rcases e2 with ⟨rfl, _⟩ | ⟨e3, _, _⟩; rfl; cases e3
            subst this
            refine ⟨_, w, e1, Drawn.refl w, ?_⟩
            rw [show nhi - nlo = 0 from by omega]
            exact .slice0 (fun h => absurd h (by decide))
          rcases b2 with ⟨hn, e⟩ | ⟨k2, hk2⟩
          · -- 'x[lo::max]' is no Go
            obtain ⟨u', hu', _⟩ := hhi _ rfl
            rw [hn] at hu'; cases hu'
          · exact hmxx (.inr ⟨km, by rw [hm1, g3], g1, by rw [hk2]; simp, by simp⟩)
        · cases h
    · cases h
  · cases h

end
end Go.Sim
