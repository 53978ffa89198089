/- A pure account of the values, floats and memory of a run, and how it stands to the model's (part 11: names of blocks may be changed; calls). Conditions: none. -/
import Derived.Test.YtgjdkhocnnoimaaS8

section
namespace Go.Sim
open Go

section
variable {P : Program} {ι : List Place} {w : World}

/-! ### Slice literals -/

theorem inOrder_spec : ∀ {k : Nat} {parts : List (Nat × Value)} {vs : List Value}, inOrder k parts = some vs →
    parts.map (·.2) = vs ∧ ∀ j, j < parts.length → (parts.map (·.1))[j]? = some (k + j)
  | k, [], vs, h => by simp [inOrder] at h; subst h; exact ⟨rfl, fun j hj => by simp at hj⟩
  | k, (i, v) :: parts, vs, h => by
    simp only [inOrder] at h
    cases hb : Nat.beq i k with
    | false => simp [hb] at h
    | true =>
      have hi := Nat.eq_of_beq_eq_true hb
      simp only [hb, cond_true, Option.map_eq_some_iff] at h
      obtain ⟨r, hr, rfl⟩ := h
      obtain ⟨h1, h2⟩ := inOrder_spec hr
      refine ⟨by simp [h1], fun j hj => ?_⟩
      cases j with
      | zero => simp [hi]
      | succ j => simpa [Nat.add_assoc, Nat.add_comm 1 j] using h2 j (by simpa using hj)

/-- Rows filled in one after another. -/
theorem fill_rows (size : Nat) : ∀ (vs : List Value) (k : Nat) (parts : List (Nat × Value)) (cells : Array Value), parts.map (·.2) = vs → (∀ j, j < parts.length → (parts.map (·.1))[j]? = some (k + j)) →
    (∀ v ∈ vs, v.cells.size = size) → cells.size = (k + vs.length) * size →
    ∃ r, Instr.fill (fun i => some (i * size, size)) cells parts = some r ∧ r.toList = cells.toList.take (k * size) ++ vs.flatMap (fun v => v.cells.toList)
  | [], k, parts, cells, hp, _, _, hs => by
    simp at hp; subst hp
    refine ⟨cells, rfl, ?_⟩
    rw [List.take_of_length_le (by simp at hs ⊢; omega)]
    simp
  | v :: vs, k, [], cells, hp, _, _, _ => by simp at hp
  | v :: vs, k, (i, u) :: parts, cells, hp, hk, hz, hs => by
    simp only [List.map_cons, List.cons.injEq] at hp
    obtain ⟨rfl, hp⟩ := hp
    have hi : i = k := by have := hk 0 (by simp); simpa using this
    subst hi
    have hu : u.cells.size = size := hz u (by simp)
    have hle : i * size + size ≤ cells.size := by
      rw [hs]; simp only [List.length_cons]
      rw [show i + (vs.length + 1) = i + 1 + vs.length from by omega, Nat.add_mul, Nat.add_mul]
      omega
    rw [fill_step _ cells i u parts (i * size) size rfl hu hle]
    obtain ⟨r, h1, h2⟩ := fill_rows size vs (i + 1) parts (splice cells.toList (i * size) u.cells.toList).toArray hp
      (fun j hj => by have := hk (j + 1) (by simpa using hj); simpa [Nat.add_assoc, Nat.add_comm 1 j] using this)
      (fun v hv => hz v (by simp [hv])) (by
        simp only [List.size_toArray]
        rw [length_splice _ _ _ (by simp; omega)]
        simp only [Array.length_toList, hs, List.length_cons]
        congr 1; omega)
    refine ⟨r, h1, ?_⟩
    rw [h2]
    simp only [List.flatMap_cons, ← List.append_assoc]
    congr 1
    unfold splice
    rw [Nat.add_mul, Nat.one_mul]
    have e1 : (cells.toList.take (i * size) ++ u.cells.toList).length = i * size + size := by simp; omega
    rw [List.take_append_of_le_length (by omega), List.take_of_length_le (by omega)]

theorem litGo {k : FloatKind} : ∀ {l : List Value} {xs : List Nat}, litCont.go k l = some xs → l = xs.map (Value.float k)
  | [], xs, h => by simp [litCont.go] at h; subst h; rfl
  | v :: l, xs, h => by
    cases v <;> simp only [litCont.go] at h <;> try (cases h; done)
    rename_i k' x
    cases hk : sameF k k' with
    | false => simp [hk] at h
    | true =>
      obtain rfl := sameF_eq hk
      simp only [hk, cond_true, Option.map_eq_some_iff] at h
      obtain ⟨r, hr, rfl⟩ := h
      rw [litGo hr]; rfl

theorem litGoI {k : IntKind} : ∀ {l : List Value} {xs : List Int}, litCont.goI k l = some xs → l = xs.map (Value.int k)
  | [], xs, h => by simp [litCont.goI] at h; subst h; rfl
  | v :: l, xs, h => by
    cases v <;> simp only [litCont.goI] at h <;> try (cases h; done)
    rename_i k' x
    cases hk : sameI k k' with
    | false => simp [hk] at h
    | true =>
      obtain rfl := sameI_eq hk
      simp only [hk, cond_true, Option.map_eq_some_iff] at h
      obtain ⟨r, hr, rfl⟩ := h
      rw [litGoI hr]; rfl

theorem litGoC {k : FloatKind} : ∀ {l : List Value} {xs : List (Nat × Nat)}, litCont.goC k l = some xs → l = xs.map (fun p => Value.complex k p.1 p.2)
  | [], xs, h => by simp [litCont.goC] at h; subst h; rfl
  | v :: l, xs, h => by
    cases v <;> simp only [litCont.goC] at h <;> try (cases h; done)
    rename_i k' x y
    cases hk : sameF k k' with
    | false => simp [hk] at h
    | true =>
      obtain rfl := sameF_eq hk
      simp only [hk, cond_true, Option.map_eq_some_iff] at h
      obtain ⟨r, hr, rfl⟩ := h
      rw [litGoC hr]; rfl

/-- What a slice literal's content is: row by row the cells of its values, each of one cell. -/
theorem litCont_spec {vs : List Value} {c : Cont} (h : litCont vs = some c) : c.rows = vs.length ∧ (∀ r v, vs[r]? = some v → c.row r = cellsV v ∧ (cellsV v).length = c.sz ∧ allP one1 (cellsV v) = true) := by
  cases vs with
  | nil => cases h
  | cons v vs =>
    cases v <;> simp only [litCont] at h <;> try (cases h; done)
    case float k x =>
      simp only [Option.map_eq_some_iff] at h
      obtain ⟨r, hr, rfl⟩ := h
      rw [litGo hr]
      refine ⟨by simp [Cont.rows], fun i v hv => ?_⟩
      have : (List.map (Value.float k) (x :: r))[i]? = some v := by simpa using hv
      rw [List.getElem?_map, Option.map_eq_some_iff] at this
      obtain ⟨y, hy, rfl⟩ := this
      exact ⟨by simp only [Cont.row, List.getD_eq_getElem?_getD, hy]; rfl, rfl, rfl⟩
    case int k x =>
      simp only [Option.map_eq_some_iff] at h
      obtain ⟨r, hr, rfl⟩ := h
      rw [litGoI hr]
      refine ⟨by simp [Cont.rows], fun i v hv => ?_⟩
      have : (List.map (Value.int k) (x :: r))[i]? = some v := by simpa using hv
      rw [List.getElem?_map, Option.map_eq_some_iff] at this
      obtain ⟨y, hy, rfl⟩ := this
      exact ⟨by simp only [Cont.row, List.getD_eq_getElem?_getD, hy]; rfl, rfl, rfl⟩
    case complex k x y =>
      simp only [Option.map_eq_some_iff] at h
      obtain ⟨r, hr, rfl⟩ := h
      rw [litGoC hr]
      refine ⟨by simp [Cont.rows], fun i v hv => ?_⟩
      have : (List.map (fun p : Nat × Nat => Value.complex k p.1 p.2) ((x, y) :: r))[i]? = some v := by simpa using hv
      rw [List.getElem?_map, Option.map_eq_some_iff] at this
      obtain ⟨p, hp, rfl⟩ := this
      exact ⟨by simp only [Cont.row, List.getD_eq_getElem?_getD, hp]; rfl, rfl, rfl⟩
    case agg cs =>
      obtain ⟨cs⟩ := cs
      cases vs with
      | nil =>
        simp only [Option.map_eq_some_iff] at h
        obtain ⟨ss, hss, rfl⟩ := h
        have e := scsOf_eq hss
        refine ⟨rfl, fun i v hv => ?_⟩
        cases i with
        | succ i => simp at hv
        | zero =>
          simp at hv; subst hv
          refine ⟨by simp [Cont.row, cellsV, e], by simp [cellsV, Cont.sz, e], ?_⟩
          simp only [cellsV, e]
          clear hss e
          induction ss with
          | nil => rfl
          | cons s ss ih => simp only [List.map_cons, allP, Bool.and_eq_true]; exact ⟨by cases s <;> rfl, ih⟩
      | cons v vs => cases h

theorem flatMap_get (sz : Nat) : ∀ (vs : List Value) (r j : Nat) (v : Value), (∀ v ∈ vs, v.cells.size = sz) → vs[r]? = some v → j < sz →
    (vs.flatMap fun v => v.cells.toList)[r * sz + j]? = v.cells.toList[j]?
  | [], r, j, v, _, h, _ => by simp at h
  | u :: vs, 0, j, v, hz, h, hj => by
    simp at h; subst h
    have := hz u (by simp)
    simp only [List.flatMap_cons, Nat.zero_mul, Nat.zero_add]
    exact List.getElem?_append_left (by simp; omega)
  | u :: vs, r + 1, j, v, hz, h, hj => by
    have hu := hz u (by simp)
    simp only [List.flatMap_cons]
    rw [List.getElem?_append_right (by simp only [Array.length_toList, hu, Nat.add_mul]; omega)]
    rw [← flatMap_get sz vs r j v (fun v hv => hz v (by simp [hv])) (by simpa using h) hj]
    congr 1
    simp only [Array.length_toList, hu, Nat.add_mul]; omega

theorem flatMap_length (sz : Nat) : ∀ (vs : List Value), (∀ v ∈ vs, v.cells.size = sz) → (vs.flatMap fun v => v.cells.toList).length = vs.length * sz
  | [], _ => by simp
  | u :: vs, hz => by
    have hu := hz u (by simp)
    simp only [List.flatMap_cons, List.length_append, Array.length_toList, hu, flatMap_length sz vs (fun v hv => hz v (by simp [hv])), List.length_cons, Nat.add_mul]
    omega

/-- A block that has no cell. -/
theorem Ext.empty {H : Heap} (h : RH ι H w) (c : Cont) (o : Bool) (hr : c.rows = 0) : Ext ι H w (ι ++ [⟨none, 0, c.sz, 0⟩]) (H ++ [some ⟨o, c⟩]) w := by
  have hsub : Sub ι (ι ++ [(⟨none, 0, c.sz, 0⟩ : Place)]) := fun b p hb => getElem?_snoc_lt hb
  have hlen := h.len
  refine ⟨⟨_, rfl⟩, ⟨by simp [h.len], ?_, ?_, ?_⟩, Fr.refl _ _, ?_⟩
  · intro i p b hp hb
    rcases getElem?_snoc hp with ⟨hp, hi⟩ | ⟨hi, rfl⟩
    · rcases getElem?_snoc hb with ⟨hb, _⟩ | ⟨hi', _⟩
      · exact (h.blk i p b hp hb).of_heap hsub fun _ _ _ => rfl
      · omega
    · rcases getElem?_snoc hb with ⟨hb, hi'⟩ | ⟨_, hb⟩
      · omega
      · simp at hb; subst hb
        refine ⟨rfl, fun r hr' => by simp [hr] at hr', fun r j hr' _ => by simp [hr] at hr', fun _ rb hrb => by cases hrb⟩
  · intro i j p q b c' rb hp hb ho hq hc' hij hrb
    rcases getElem?_snoc hp with ⟨hp, hi⟩ | ⟨hi, rfl⟩
    · rcases getElem?_snoc hb with ⟨hb, _⟩ | ⟨hi', _⟩
      · rcases getElem?_snoc hq with ⟨hq, hj⟩ | ⟨hj, rfl⟩
        · rcases getElem?_snoc hc' with ⟨hc', _⟩ | ⟨hj', _⟩
          · exact h.sep i j p q b c' rb hp hb ho hq hc' hij hrb
          · omega
        · simp
      · omega
    · cases hrb
  · intro i p b rb hp hb hrb
    rcases getElem?_snoc hp with ⟨hp, hi⟩ | ⟨hi, rfl⟩
    · rcases getElem?_snoc hb with ⟨hb, _⟩ | ⟨hi', _⟩
      · exact h.lt i p b rb hp hb hrb
      · omega
    · cases hrb
  · rintro rb ⟨i, p, b, hp, hb, ho, hrb⟩
    rcases getElem?_snoc hp with ⟨hp, hi⟩ | ⟨hi, rfl⟩
    · rcases getElem?_snoc hb with ⟨hb, _⟩ | ⟨hi', _⟩
      · exact .inl ⟨i, p, b, hp, hb, ho, hrb⟩
      · omega
    · cases hrb

theorem evBuildSlice_sound {H H' : Heap} (hrh : RH ι H w) {t : TypeId} {len : Nat} {parts parts' : List (Nat × Value)} {v : Value} (h : evBuildSlice P H t len parts = some (v, H'))
    (he : parts'.map (·.1) = parts.map (·.1)) (hv : VRs ι (parts.map (·.2)) (parts'.map (·.2))) : Runs P (Instr.buildSlice t len parts'.toArray) ι H w v H' := by
  unfold evBuildSlice at h
  split at h
  · rename_i el hu
    split at h
    · rename_i i vs hi hvs
      cases hcnd : (Nat.beq vs.length len && Nat.ble (len * i.size) 16777216 && Nat.blt 0 i.size) with
      | false => simp [hcnd] at h
      | true =>
        simp only [hcnd, cond_true] at h
        simp only [Bool.and_eq_true] at hcnd
        have hlen := Nat.eq_of_beq_eq_true hcnd.1.1
        have hle := Nat.le_of_ble_eq_true hcnd.1.2
        have hpos : 0 < i.size := Nat.le_of_ble_eq_true hcnd.2
        obtain ⟨o1, o2⟩ := inOrder_spec hvs
        have hlp : parts.length = vs.length := by rw [← o1]; simp
        have hlp' : parts'.length = parts.length := by have := congrArg List.length he; simpa using this
        split at h
        · -- no value
          have hp0 : parts' = [] := List.eq_nil_of_length_eq_zero (by omega)
          subst hp0
          split at h
          · rename_i z hz
            split at h
            · rename_i ct hct
              cases hc2 : Nat.beq ct.sz i.size with
              | false => simp [hc2] at h
              | true =>
                simp only [hc2, cond_true, Option.some.injEq, Prod.mk.injEq] at h
                obtain ⟨rfl, rfl⟩ := h
                obtain ⟨z1, z2, z3, z4, z5⟩ := zeros_spec hct
                have hext := Ext.alloc hrh ct #[] el 0 (by omega) (by simp) (fun r hr => by omega) (fun j u hu => by simp at hu) (fun r j hr => by omega)
                refine ⟨_, _, _, ?_, .slice0 (x := some ⟨w.heap.size, 0, none⟩) (fun _ => by simp), hext⟩
                simp [Instr.buildSlice, run_underlying hu, sizeOf, typeInfo, hi, Instr.fill, newRow, Array.range_zero']
            · cases h
          · cases h
        · rename_i len'
          split at h
          · rename_i ct hct
            cases hc2 : (Nat.beq ct.sz i.size && i.zero.isSome && Nat.beq (i.zero.getD undef).cells.size i.size) with
            | false => simp [hc2] at h
            | true =>
              simp only [hc2, cond_true, Option.some.injEq, Prod.mk.injEq] at h
              obtain ⟨rfl, rfl⟩ := h
              simp only [Bool.and_eq_true] at hc2
              have hsz := Nat.eq_of_beq_eq_true hc2.1.1
              have hzs := Nat.eq_of_beq_eq_true hc2.2
              obtain ⟨z, hz⟩ := Option.isSome_iff_exists.1 hc2.1.2
              rw [hz] at hzs
              simp only [Option.getD_some] at hzs
              obtain ⟨s1, s2⟩ := litCont_spec hct
              rw [o1] at hv
              have hreal : ∀ (r : Nat) (v' : Value), (parts'.map (·.2))[r]? = some v' → ∃ v, vs[r]? = some v ∧ VR ι v v' := by
                intro r v' hr
                have hl := hv.length
                have hr' := some_lt hr
                obtain ⟨u, hu', hvr⟩ := hv.get r _ (List.getElem?_eq_getElem (show r < vs.length by omega))
                rw [hr] at hu'; cases hu'
                exact ⟨_, List.getElem?_eq_getElem (show r < vs.length by omega), hvr⟩
              have hsizes : ∀ v ∈ parts'.map (·.2), v.cells.size = i.size := by
                intro v' hv'
                obtain ⟨r, hr⟩ := List.getElem?_of_mem hv'
                obtain ⟨v, g1, g2⟩ := hreal r v' hr
                have := (s2 r v g1).2.1
                rw [g2.cells.length] at this
                simp at this
                omega
              have hvl := hv.length
              obtain ⟨r, f1, f2⟩ := fill_rows i.size (parts'.map (·.2)) 0 parts' ((Array.range ((len' + 1) * i.size)).map (z.cells[· % z.cells.size]!)) rfl
                (fun j hj => by have := o2 j (by omega); rw [he]; simpa using this) hsizes (by simp only [Array.size_map, Array.size_range]; congr 1; omega)
              simp only [Nat.zero_mul, List.take_zero, List.nil_append] at f2
              have hn0 : ¬ ((len' + 1) * i.size = 0) := by
                rw [Nat.mul_eq_zero]; omega
              have hext := Ext.alloc hrh ct r el (len' + 1) (by omega) (by
                  have := congrArg List.length f2
                  rw [flatMap_length i.size _ hsizes] at this
                  simp only [Array.length_toList] at this
                  rw [this, hsz]; congr 1; omega)
                (fun k hk => by
                  obtain ⟨v, hv1⟩ : ∃ v, vs[k]? = some v := ⟨_, List.getElem?_eq_getElem (by omega)⟩
                  obtain ⟨q1, q2, _⟩ := s2 k v hv1
                  rw [q1, q2])
                (fun j u hu' => by
                  have hu2 : r.toList[j]? = some u := by simpa using hu'
                  rw [f2] at hu2
                  have hm := List.mem_of_getElem? hu2
                  rw [List.mem_flatMap] at hm
                  obtain ⟨v', hv', hm⟩ := hm
                  obtain ⟨k, hk⟩ := List.getElem?_of_mem hv'
                  obtain ⟨v, g1, g2⟩ := hreal k v' hk
                  exact g2.cells.ones (s2 k v g1).2.2 u hm)
                (fun k j hk hj => by
                  obtain ⟨v', hv1⟩ : ∃ v', (parts'.map (·.2))[k]? = some v' := ⟨_, List.getElem?_eq_getElem (by simp; omega)⟩
                  obtain ⟨v, g1, g2⟩ := hreal k v' hv1
                  obtain ⟨q1, q2, _⟩ := s2 k v g1
                  have hj' : j < (cellsV v).length := by omega
                  obtain ⟨u', hu', hvr⟩ := g2.cells.get j _ (List.getElem?_eq_getElem hj')
                  refine ⟨u', (cellsV v)[j], ?_, by rw [q1]; exact List.getElem?_eq_getElem hj', hvr⟩
                  have h3 := flatMap_get i.size _ k j v' hsizes hv1 (by omega)
                  rw [← f2] at h3
                  rw [← hu', hsz]
                  simpa using h3)
              refine ⟨_, .slice (some ⟨w.heap.size, 0, none⟩) (len' + 1) (len' + 1), _, ?_, ?_, hext⟩
              · have hng : ¬ (16777216 < (len' + 1) * i.size) := Nat.not_lt.2 hle
                simp [Instr.buildSlice, run_underlying hu, sizeOf, typeInfo, zeroValue, hi, hz, newRow, hng, hn0]
                rw [show (Instr.fill (fun i_1 => some (i_1 * i.size, i.size)) (Array.map (fun x => z.cells[x % z.cells.size]!) (Array.range ((len' + 1) * i.size))) parts') = some r from f1]
                rfl
              · have := VR.slice (ι := ι ++ [⟨some w.heap.size, 0, ct.sz, len' + 1⟩]) (b := H.length) (i := 0) (l := len' + 1) (c := 1) (c' := len' + 1) (getElem?_new _ _ _ hrh.len) rfl (by omega) (by simp) (by omega)
                simpa using this
          · cases h
    · cases h
  · cases h

/-! ### Slices of slices -/

theorem run_bound {x : Value} {k : IntKind} {n y : Nat} (hx : x = .int k (n : Int)) (h : n ≤ y) (code : BoundsCode) : (Instr.sliceBound x y code).run P w = .ok n w := by
  subst hx
  simp [Instr.sliceBound, asIntOf, h]

theorem evSlice_sound {H : Heap} {t : TypeId} {x v x' : Value} {lo hi mx lo' hi' mx' : Option Value} {nlo nhi : Nat} {vc : List Prop} (h : evSlice P H t x lo hi mx nlo nhi = some (v, vc)) (hv : AllP vc)
    (hx : VR ι x x') (hlo : ∀ u, lo = some u → ∃ u', lo' = some u' ∧ VR ι u u') (hlo0 : lo = none → lo' = none)
    (hhi : ∀ u, hi = some u → ∃ u', hi' = some u' ∧ VR ι u u') (hhi0 : hi = none → hi' = none)
    (hmx : ∀ u, mx = some u → ∃ u', mx' = some u' ∧ VR ι u u') (hmx0 : mx = none → mx' = none) (hrh : RH ι H w) :
    Quiet P (Instr.sliceAt t x' lo' hi' mx') ι w v := by
  unfold evSlice at h
  split at h
  · rename_i el b r l c hu
    split at h
    · rename_i blk hblk
      rw [blkAt_eq] at hblk
      cases hs : sizeOk P el blk.c.sz with
      | false => simp [hs] at h
      | true =>
        simp only [hs, cond_true] at h
        obtain ⟨hin, hcs⟩ := sizeOk_eq hs
        have hsz := run_sizeOf' hin w
        have allp : ∀ (a b : List Prop), AllP (a ++ b) → AllP a ∧ AllP b := by
          intro a b
          induction a with
          | nil => intro h; exact ⟨trivial, h⟩
          | cons p a ih => intro h; exact ⟨⟨h.1, (ih h.2).1⟩, (ih h.2).2⟩
        -- a bound that is told
        have bnd : ∀ (o o' : Option Value) (n d : Nat) (vb : List Prop), evSlice.bound o n d = some vb → AllP vb → (∀ u, o = some u → ∃ u', o' = some u' ∧ VR ι u u') → (o = none → o' = none) →
            (o' = none ∧ n = d) ∨ (∃ k, o' = some (.int k (n : Int))) := by
          intro o o' n d vb hb hvb h1 h0
          unfold evSlice.bound at hb
          split at hb
          · rename_i k i
            simp only [Option.some.injEq] at hb; subst hb
            obtain ⟨u', e1, e2⟩ := h1 _ rfl
            cases e2
            exact .inr ⟨k, by rw [e1, hvb.1]⟩
          · simp only [Option.some.injEq] at hb; subst hb
            exact .inl ⟨h0 rfl, hvb.1⟩
          · cases hb
        -- the real slice
        have real : ∀ (c' : Nat) (a : Option Addr) (m : Option Value), x' = .slice a l c' → l ≤ c' → nlo ≤ nhi → nhi ≤ l →
            (lo' = none ∧ nlo = 0 ∨ ∃ k, lo' = some (.int k (nlo : Int))) → (hi' = none ∧ nhi = l ∨ ∃ k, hi' = some (.int k (nhi : Int))) →
            (mx' = none ∧ m = none ∨ (∃ k, mx' = some (.int k (nlo : Int)) ∧ nlo = nhi ∧ hi' ≠ none ∧ m ≠ none)) →
            ∃ a' c'', (Instr.sliceAt t x' lo' hi' mx').run P w = .ok (.slice a' (nhi - nlo) c'') w ∧
              (c'' = 0 ∧ (m ≠ none ∨ c' = nlo) ∨ (m = none ∧ c'' = c' - nlo ∧ a' = a.map (·.add (nlo * blk.c.sz)))) := by
          intro c' a m hx' hlc h1 h2 hl hh hm
          subst hx'
          rcases hm with ⟨hm, rfl⟩ | ⟨k, hm, e, hne, hm0⟩
          · -- no third bound
            have hb : (Instr.sliceBounds true l c' lo' hi' mx').run P w = .ok (nlo, nhi, c') w := by
              subst hm
              rcases hl with ⟨rfl, rfl⟩ | ⟨k1, rfl⟩ <;> rcases hh with ⟨rfl, rfl⟩ | ⟨k2, rfl⟩ <;>
                simp [Instr.sliceBounds, run_bound (P := P) (w := w) rfl (show nhi ≤ c' by omega), run_bound (P := P) (w := w) rfl h1]
            by_cases hcl : c' = nlo
            · subst hcl
              exact ⟨a, 0, by simp [Instr.sliceAt, Instr.slice, run_underlying hu, hb, hsz], .inl ⟨rfl, .inr rfl⟩⟩
            · exact ⟨a.map (·.add (nlo * blk.c.sz)), c' - nlo, by simp [Instr.sliceAt, Instr.slice, run_underlying hu, hb, hsz, hcl, hcs], .inr ⟨rfl, rfl, rfl⟩⟩
          · subst e
            have hb : (Instr.sliceBounds true l c' lo' hi' mx').run P w = .ok (nlo, nlo, nlo) w := by
              subst hm
              rcases hh with ⟨rfl, _⟩ | ⟨k2, rfl⟩
              · exact absurd rfl hne
              · rcases hl with ⟨rfl, e2⟩ | ⟨k1, rfl⟩
                · subst e2
                  simp [Instr.sliceBounds, Instr.sliceBound, asIntOf]
                · simp [Instr.sliceBounds, run_bound (P := P) (w := w) rfl (show nlo ≤ c' by omega), run_bound (P := P) (w := w) rfl (Nat.le_refl nlo)]
            exact ⟨a, 0, by simp [Instr.sliceAt, Instr.slice, run_underlying hu, hb, hsz], .inl ⟨rfl, .inl hm0⟩⟩
        split at h
        · -- no third bound
          rename_i vl vh hbl hbh
          simp only [Option.some.injEq, Prod.mk.injEq] at h
          obtain ⟨rfl, rfl⟩ := h
          obtain ⟨hv1, hv3⟩ := allp _ _ hv
          obtain ⟨hv1, hv2⟩ := allp _ _ hv1
          obtain ⟨g1, g2, _⟩ := hv3
          have b1 := bnd lo lo' nlo 0 vl hbl hv1 hlo hlo0
          have b2 := bnd _ hi' nhi l vh hbh hv2 hhi hhi0
          cases hx with
          | slice hp hb hl hcap h0 =>
            rename_i c' p rb
            obtain ⟨a', c'', e1, e2⟩ := real c' _ none rfl hl g1 g2 b1 b2 (.inl ⟨hmx0 rfl, rfl⟩)
            refine ⟨_, w, e1, Drawn.refl w, ?_⟩
            rcases e2 with ⟨rfl, e2⟩ | ⟨_, rfl, rfl⟩
            · have : c' = nlo := by rcases e2 with e2 | e2; exact absurd rfl e2; exact e2
              rw [show nhi - nlo = 0 from by omega]
              exact .slice0 (fun h => absurd h (by decide))
            · have hbk := hrh.blk b p blk hp hblk
              have := VR.slice (i := rowAdd r nlo) (l := nhi - nlo) (c := 1) (c' := c' - nlo) hp hb (by omega) (by rw [rowAdd_eq]; omega) (by omega)
              simp only [Option.map_some, add_eq]
              rw [rowAdd_eq, Nat.add_mul, ← Nat.add_assoc] at this
              rw [rowAdd_eq, ← hbk.sz]
              exact this
          | slice0 =>
            obtain ⟨a', c'', e1, e2⟩ := real 0 _ none rfl (Nat.le_refl 0) g1 g2 b1 b2 (.inl ⟨hmx0 rfl, rfl⟩)
            have : c'' = 0 := by rcases e2 with ⟨rfl, _⟩ | ⟨_, rfl, _⟩ <;> omega
            subst this
            refine ⟨_, w, e1, Drawn.refl w, ?_⟩
            rw [show nhi - nlo = 0 from by omega]
            exact .slice0 (fun h => absurd h (by decide))
        · rename_i vl vh hiv km m hbl hbh
          simp only [Option.some.injEq, Prod.mk.injEq] at h
          obtain ⟨rfl, rfl⟩ := h
          obtain ⟨hv1, hv3⟩ := allp _ _ hv
          obtain ⟨hv1, hv2⟩ := allp _ _ hv1
          obtain ⟨g1, g2, g3, _⟩ := hv3
          have b1 := bnd lo lo' nlo 0 vl hbl hv1 hlo hlo0
          have b2 := bnd _ hi' nhi l vh hbh hv2 hhi hhi0
          obtain ⟨mv, hm1, hm2⟩ := hmx _ rfl
          cases hm2
          have hmxx : (mx' = none ∧ (some (Value.int km m)) = none ∨ (∃ k, mx' = some (.int k (nlo : Int)) ∧ nlo = nhi ∧ hi' ≠ none ∧ (some (Value.int km m)) ≠ none)) → Quiet P (Instr.sliceAt t x' lo' hi' mx') ι w (.slice (some ⟨b, rowAdd r nlo, none⟩) (nhi - nlo) 0) := by
            intro hmx2
            have hlc : ∃ a c', x' = .slice a l c' ∧ l ≤ c' := by
              cases hx with
              | slice hp hb hl hcap h0 => exact ⟨_, _, rfl, hl⟩
              | slice0 => exact ⟨_, _, rfl, Nat.le_refl 0⟩
            obtain ⟨a, c', hx', hlc⟩ := hlc
            obtain ⟨a', c'', e1, e2⟩ := real c' a _ hx' hlc (by omega) g2 b1 b2 hmx2
            have : c'' = 0 := by rcases e2 with ⟨rfl, _⟩ | ⟨e3, _, _⟩; rfl; cases e3
            subst this
            refine ⟨_, w, e1, Drawn.refl w, ?_⟩
            rw [show nhi - nlo = 0 from by omega]
            exact .slice0 (fun h => absurd h (by decide))
          rcases b2 with ⟨hn, e⟩ | ⟨k2, hk2⟩
          · -- 'x[lo::max]' is no Go
            obtain ⟨u', hu', _⟩ := hhi _ rfl
            rw [hn] at hu'; cases hu'
          · exact hmxx (.inr ⟨km, by rw [hm1, g3], g1, by rw [hk2]; simp, by simp⟩)
        · cases h
    · cases h
  · cases h

end
end Go.Sim
end

section
namespace Go.Sim
open Go

theorem allP_append : ∀ (a b : List Prop), AllP (a ++ b) → AllP a ∧ AllP b
  | [], _, h => ⟨trivial, h⟩
  | _ :: a, b, h => ⟨⟨h.1, (allP_append a b h.2).1⟩, (allP_append a b h.2).2⟩

theorem one1_list : ∀ {l : List Value}, allP one1 l = true → ∀ v ∈ l, v.oneCell' = true
  | [], _, v, hv => by cases hv
  | u :: l, h, v, hv => by
    simp [allP] at h
    rcases List.mem_cons.1 hv with rfl | hv
    · cases v <;> first | rfl | cases h.1
    · exact one1_list h.2 v hv

theorem one1_cells {z : Value} (h : allP one1 (cellsV ((some z).getD undef)) = true) : ∀ v ∈ z.cells.toList, v.oneCell' = true := by
  rw [← cellsV_eq]; exact one1_list h

theorem cut_spec {c c' : Cont} {r n : Nat} {vc : List Prop} (h : c.cut r n = some (c', vc)) (hv : AllP vc) : r = 0 ∧ c' = c ∧ n = c.rows := by
  cases c <;> simp only [Cont.cut] at h <;> try (cases h; done)
  all_goals
    cases hr : Nat.beq r 0 with
    | false => simp [hr] at h
    | true =>
      simp only [hr, cond_true, Option.some.injEq, Prod.mk.injEq] at h
      obtain ⟨rfl, rfl⟩ := h
      exact ⟨Nat.eq_of_beq_eq_true hr, rfl, hv.1⟩

theorem getD_part {α : Type} (xs : List α) (r n i : Nat) (d : α) (h : i < n) : ((xs.drop r).take n).getD i d = xs.getD (r + i) d := by
  simp only [List.getD_eq_getElem?_getD, List.getElem?_take, if_pos h, List.getElem?_drop]

theorem part_spec {c c' : Cont} {r n : Nat} {vc : List Prop} (h : c.part r n = some (c', vc)) (hv : AllP vc) : c'.rows = n ∧ c'.sz = c.sz ∧ r + n ≤ c.rows ∧ ∀ i, i < n → c'.row i = c.row (r + i) := by
  cases c <;> simp only [Cont.part] at h <;> try (cases h; done)
  all_goals
    simp only [Option.some.injEq, Prod.mk.injEq] at h
    obtain ⟨rfl, rfl⟩ := h
    have h1 := hv.1
    refine ⟨by simp [Cont.rows]; omega, rfl, h1, fun i hi => ?_⟩
    simp only [Cont.row]
    rw [getD_part _ _ _ _ _ hi]

theorem getD_app {α : Type} (xs ys : List α) (i : Nat) (d : α) : (xs ++ ys).getD i d = if i < xs.length then xs.getD i d else ys.getD (i - xs.length) d := by
  simp only [List.getD_eq_getElem?_getD]
  split
  · rename_i h; rw [List.getElem?_append_left h]
  · rename_i h; rw [List.getElem?_append_right (by omega)]

theorem app_spec {c d e : Cont} (h : c.app d = some e) : d.sz = c.sz ∧ e.sz = c.sz ∧ e.rows = c.rows + d.rows ∧ ∀ i, e.row i = if i < c.rows then c.row i else d.row (i - c.rows) := by
  cases c <;> cases d <;> simp only [Cont.app] at h <;> try (cases h; done)
  case fl.fl k xs k' ys =>
    cases hk : sameF k k' with
    | false => simp [hk] at h
    | true =>
      obtain rfl := sameF_eq hk
      simp only [hk, cond_true, Option.some.injEq] at h; subst h
      refine ⟨rfl, rfl, by simp [Cont.rows], fun i => ?_⟩
      simp only [Cont.row, Cont.rows, getD_app]
      by_cases h : i < xs.length <;> simp [h]
  case it.it k xs k' ys =>
    cases hk : sameI k k' with
    | false => simp [hk] at h
    | true =>
      obtain rfl := sameI_eq hk
      simp only [hk, cond_true, Option.some.injEq] at h; subst h
      refine ⟨rfl, rfl, by simp [Cont.rows], fun i => ?_⟩
      simp only [Cont.row, Cont.rows, getD_app]
      by_cases h : i < xs.length <;> simp [h]
  case cx.cx k xs k' ys =>
    cases hk : sameF k k' with
    | false => simp [hk] at h
    | true =>
      obtain rfl := sameF_eq hk
      simp only [hk, cond_true, Option.some.injEq] at h; subst h
      refine ⟨rfl, rfl, by simp [Cont.rows], fun i => ?_⟩
      simp only [Cont.row, Cont.rows, getD_app]
      by_cases h : i < xs.length <;> simp [h]
  case fn.fn n sz g n' sz' g' =>
    cases hk : Nat.beq sz sz' with
    | false => simp [hk] at h
    | true =>
      have hs := Nat.eq_of_beq_eq_true hk
      simp only [hk, cond_true, Option.some.injEq] at h; subst h
      refine ⟨hs.symm, rfl, rfl, fun i => ?_⟩
      simp only [Cont.row, Cont.rows]
      cases hb : Nat.blt i n with
      | true => have : i < n := Nat.le_of_ble_eq_true hb; simp [this]
      | false =>
        have : ¬ i < n := fun h' => by have h2 : Nat.blt i n = true := Nat.ble_eq_true_of_le h'; rw [h2] at hb; cases hb
        simp [this]

section
variable {P : Program} {ι : List Place} {w : World}

/-- Rows read one after another. -/
theorem run_rows {H : Heap} (hrh : RH ι H w) {p : Place} {b : Nat} {blk : Blk} {rb r n : Nat} (hp : ι[b]? = some p) (hH : H[b]? = some (some blk)) (hb : p.blk = some rb) (hpos : 0 < blk.c.sz)
    (hn : r + n ≤ blk.c.rows) :
    ∃ l : List Value, l.length = n * blk.c.sz ∧ (∀ w2 : World, w2.heap = w.heap → (loadCells ⟨rb, p.base + r * p.sz, none⟩ (n * blk.c.sz)).run P w2 = .ok ⟨l⟩ w2) ∧ (∀ v ∈ l, v.oneCell' = true) ∧
      ∀ i j, i < n → j < blk.c.sz → ∃ v u, l[i * blk.c.sz + j]? = some v ∧ (blk.c.row (r + i))[j]? = some u ∧ VR ι u v := by
  have hbk := hrh.blk b p blk hp hH
  have hsz := hbk.sz
  have hcell : ∀ k, k < n * blk.c.sz → ∃ v u, w.cell? ⟨rb, p.base + r * p.sz + k, none⟩ = some v ∧ (blk.c.row (r + k / blk.c.sz))[k % blk.c.sz]? = some u ∧ VR ι u v ∧ v.oneCell' = true := by
    intro k hk
    have hd : k / blk.c.sz < n := (Nat.div_lt_iff_lt_mul hpos).2 hk
    obtain ⟨v, u, h1, h2, h3, h4⟩ := hbk.cell (r := r + k / blk.c.sz) (j := k % blk.c.sz) (by omega) (Nat.mod_lt _ hpos) hb
    refine ⟨v, u, ?_, h2, h3, h4⟩
    rw [← h1]
    have e : r * p.sz + k = (r + k / blk.c.sz) * p.sz + k % blk.c.sz := by
      rw [Nat.add_mul, hsz]
      have := Nat.div_add_mod k blk.c.sz
      rw [Nat.mul_comm] at this
      omega
    rw [Nat.add_assoc, e, Nat.add_assoc]
  have hcw : ∀ (w2 : World) (a : Addr), w2.heap = w.heap → w2.cell? a = w.cell? a := by
    intro w2 a h; simp [World.cell?, h]
  refine ⟨(List.range (n * blk.c.sz)).map fun i => (w.cell? ⟨rb, p.base + r * p.sz + i, none⟩).getD undef, by simp, ?_, ?_, ?_⟩
  · intro w2 hw2
    have := run_loadCells (P := P) w2 ⟨rb, p.base + r * p.sz, none⟩ (n * blk.c.sz) (fun i => (w.cell? ⟨rb, p.base + r * p.sz + i, none⟩).getD undef) (fun k hk => by
      obtain ⟨v, u, h1, _⟩ := hcell k hk
      rw [add_eq, hcw w2 _ hw2, h1]; rfl)
    simpa using this
  · intro v hv
    simp only [List.mem_map, List.mem_range] at hv
    obtain ⟨k, hk, rfl⟩ := hv
    obtain ⟨v', u', h1, _, _, h4⟩ := hcell k hk
    rw [h1]; exact h4
  · intro i j hi hj
    have hk : i * blk.c.sz + j < n * blk.c.sz := by
      have := Nat.mul_le_mul_right blk.c.sz (show i + 1 ≤ n from hi)
      rw [Nat.add_mul] at this; omega
    obtain ⟨v, u, h1, h2, h3, _⟩ := hcell _ hk
    have e1 : (i * blk.c.sz + j) / blk.c.sz = i := by
      rw [Nat.mul_comm, Nat.mul_add_div hpos, Nat.div_eq_of_lt hj]; omega
    have e2 : (i * blk.c.sz + j) % blk.c.sz = j := by
      rw [Nat.mul_comm, Nat.mul_add_mod, Nat.mod_eq_of_lt hj]
    rw [e1, e2] at h2
    exact ⟨v, u, by simp [hk, h1], h2, h3⟩

theorem run_firstCells_load (size n : Nat) (a : Addr) (l c : Nat) (w2 : World) (xs : List Value) (h : (loadCells a (n * size)).run P w2 = .ok ⟨xs⟩ w2) :
    (Builtin.firstCells size n (.slice (some a) l c)).run P w2 = .ok ⟨xs⟩ w2 := by
  simpa [Builtin.firstCells] using h

theorem run_firstCells_zero (size : Nat) (x : Option Addr) (l c : Nat) (w2 : World) : (Builtin.firstCells size 0 (.slice x l c)).run P w2 = .ok #[] w2 := by
  cases x <;> simp [Builtin.firstCells, loadCells, loadCellsFrom]

/-- What is appended, as it lies in the real world. -/
theorem srcCont_sound {H : Heap} (hrh : RH ι H w) {x x' : Value} {whole : Bool} {c : Cont} {n : Nat} {vc : List Prop} (h : srcCont H x whole = some (c, n, vc)) (hv : AllP vc) (hx : VR ι x x') (hpos : 0 < c.sz) :
    ∃ (xb : Option Addr) (xc : Nat) (news : List Value), x' = .slice xb n xc ∧ c.rows = n ∧ (∀ r, r < n → (c.row r).length = c.sz) ∧ news.length = n * c.sz ∧
      (∀ w2 : World, w2.heap = w.heap → (Builtin.firstCells c.sz n x').run P w2 = .ok ⟨news⟩ w2) ∧ (∀ v ∈ news, v.oneCell' = true) ∧
      ∀ r j, r < n → j < c.sz → ∃ v u, news[r * c.sz + j]? = some v ∧ (c.row r)[j]? = some u ∧ VR ι u v := by
  unfold srcCont at h
  split at h
  · rename_i b r m cc
    split at h
    · rename_i blk hblk
      rw [blkAt_eq] at hblk
      have key : ∃ c0 vc0, (bif whole then blk.c.cut r m else blk.c.part r m) = some (c0, vc0) ∧ c0 = c ∧ m = n ∧ vc0 = vc := by
        split at h
        · rename_i c0 vc0 hcut
          simp only [Option.some.injEq, Prod.mk.injEq] at h
          exact ⟨c0, vc0, hcut, h.1, h.2.1, h.2.2⟩
        · cases h
      obtain ⟨c0, vc0, hcut, rfl, rfl, rfl⟩ := key
      have hspec : c0.rows = m ∧ c0.sz = blk.c.sz ∧ r + m ≤ blk.c.rows ∧ ∀ i, i < m → c0.row i = blk.c.row (r + i) := by
        cases whole with
        | true =>
          obtain ⟨rfl, rfl, rfl⟩ := cut_spec hcut hv
          exact ⟨rfl, rfl, by omega, fun i _ => by rw [Nat.zero_add]⟩
        | false => exact part_spec hcut hv
      obtain ⟨s1, s2, s3, s4⟩ := hspec
      cases hx with
      | slice hp hb hl hcap h0 =>
        rename_i c' p rb
        have hbk := hrh.blk b p blk hp hblk
        obtain ⟨l, e1, e2, e3, e4⟩ := run_rows (P := P) hrh hp hblk hb (by omega) s3
        refine ⟨_, _, l, rfl, s1, fun i hi => by rw [s4 i hi, s2]; exact hbk.len _ (by omega), by rw [s2]; exact e1, fun w2 hw2 => by rw [s2]; exact run_firstCells_load _ _ _ _ _ _ _ (e2 w2 hw2), e3, ?_⟩
        intro i j hi hj
        rw [s2] at hj ⊢
        rw [s4 i hi]
        exact e4 i j hi hj
      | slice0 =>
        exact ⟨_, _, [], rfl, s1, fun i hi => by omega, by simp, fun w2 _ => run_firstCells_zero _ _ _ _ _, by simp, fun i j hi => by omega⟩
    · cases h
  · cases h

/-- Nothing appended, and there is room for it. -/
theorem run_append_none {t ty e : TypeId} {i : TypeInfo} (ht : P.underlying t = some (.slice e)) (hi : P.info? e = some i) (base xb : Option Addr) (sLen sCap xc : Nat) (h : sLen ≤ sCap) :
    (Builtin.append_ #[t, t] ty #[.slice base sLen sCap, .slice xb 0 xc]).run P w = .ok (.slice base sLen sCap) w := by
  have hf := run_firstCells_zero (P := P) i.size xb 0 xc w
  cases base <;> simp [Builtin.append_, run_underlying ht, sizeOf, typeInfo, hi, Builtin.lenOf, h, hf, storeCells]

theorem run_append_fit {t ty e e' : TypeId} {i : TypeInfo} (ht : P.underlying t = some (.slice e)) (hi : P.info? e = some i) (g sLen sCap : Nat) {cur : Array Value} (hg : w.heap[g]? = some (.cells cur e' (0, 0)))
    (x' : Value) (xb : Option Addr) (n xc : Nat) (hx : x' = .slice xb n xc) (news : List Value) (hf : (Builtin.firstCells i.size n x').run P w = .ok ⟨news⟩ w) (hl : news.length = n * i.size) (h1 : ∀ u ∈ news, u.oneCell' = true)
    (hroom : sLen + n ≤ sCap) (hfit : sCap * i.size ≤ cur.size) :
    (Builtin.append_ #[t, t] ty #[.slice (some ⟨g, 0, none⟩) sLen sCap, x']).run P w = .ok (.slice (some ⟨g, 0, none⟩) (sLen + n) sCap) (w.setRow g (splice cur.toList (sLen * i.size) news).toArray) := by
  subst hx
  have hfit2 : sLen * i.size + news.length ≤ cur.size := by
    have := Nat.mul_le_mul_right i.size hroom
    rw [Nat.add_mul] at this; omega
  have hst := run_storeCells_at P g (sLen * i.size) e' news 0 cur w hg (by simpa using hfit2) h1
  simp only [Nat.add_zero] at hst
  simp [Builtin.append_, run_underlying ht, sizeOf, typeInfo, hi, Builtin.lenOf, hroom, hf, add_eq]
  rw [hst]
  rfl

theorem run_append_more {t ty e : TypeId} {i : TypeInfo} {z : Value} (ht : P.underlying t = some (.slice e)) (hi : P.info? e = some i) (hz : i.zero = some z) (base : Option Addr) (sLen sCap : Nat)
    (x' : Value) (xb : Option Addr) (n xc : Nat) (hx : x' = .slice xb n xc) (news olds : List Value) (hf : (Builtin.firstCells i.size n x').run P w.drew = .ok ⟨news⟩ w.drew)
    (hfo : (Builtin.firstCells i.size sLen (.slice base sLen sCap)).run P w.drew = .ok ⟨olds⟩ w.drew)
    (hg : sCap < sLen + n) (hb : sLen + n ≤ 1073741824) (hby : i.bytes ≤ 1024) :
    (Builtin.append_ #[t, t] ty #[.slice base sLen sCap, x']).run P w =
      .ok (.slice (some ⟨w.heap.size, 0, none⟩) (sLen + n) (grownCap w (sLen + n) sCap e)) (w.drew.alloc (.cells (olds ++ news ++ (Builtin.zeroCells z.cells (grownCap w (sLen + n) sCap e - (sLen + n))).toList).toArray e)) := by
  subst hx
  have hn : ¬ (sLen + n ≤ sCap) := by omega
  have h63' : ¬ (9223372036854775807 < ((sLen : Int) + (n : Int))) := by omega
  have hfit : Builtin.nextslicecap (sLen + n) sCap * i.bytes ≤ 281474976710656 := growslice_fits hg (by
    have := Nat.mul_le_mul hb hby
    omega)
  have h48' : ¬ (281474976710656 < Builtin.nextslicecap (sLen + n) sCap * i.bytes) := by omega
  simp [Builtin.append_, run_underlying ht, sizeOf, typeInfo, zeroValue, hi, hz, Builtin.lenOf, hn, h63', h48', Question.forced, hf, hfo, newRow, grownCap]
  congr 2
  apply Array.ext'
  simp

/-- A block that is no more spoken of. -/
theorem Ext.kill {H : Heap} (h : RH ι H w) (b : Nat) : Ext ι H w ι (H.set b none) w := by
  have hs : ∀ (i : Nat) (c : Blk), (H.set b none)[i]? = some (some c) → H[i]? = some (some c) := by
    intro i c hc
    rw [List.getElem?_set] at hc
    split at hc
    · split at hc <;> cases hc
    · exact hc
  exact ⟨⟨[], by simp⟩, ⟨by simp [h.len], fun i p c hp hc => h.blk i p c hp (hs i c hc), fun i j p q c d rb hp hc ho hq hd => h.sep i j p q c d rb hp (hs i c hc) ho hq (hs j d hd), fun i p c rb hp hc => h.lt i p c rb hp (hs i c hc)⟩,
    Fr.refl _ _, fun rb ⟨i, p, c, hp, hc, ho, hrb⟩ => .inl ⟨i, p, c, hp, hs i c hc, ho, hrb⟩⟩

/-- An own block that grows in its place: it has a new name. -/
theorem Ext.inplace {H : Heap} (hrh : RH ι H w) {b : Nat} {p : Place} {blk : Blk} {rb : Nat} {cs cs' : Array Value} {e : TypeId} {c' : Cont}
    (hp : ι[b]? = some p) (hH : H[b]? = some (some blk)) (ho : blk.own = true) (hb : p.blk = some rb) (hcs : w.heap[rb]? = some (.cells cs e (0, 0)))
    (hsize : cs'.size = cs.size) (hone : ∀ (j : Nat) (v : Value), cs'[j]? = some v → v.oneCell' = true) (hrows : c'.rows ≤ p.cap) (hsz : c'.sz = blk.c.sz)
    (hlen : ∀ r, r < c'.rows → (c'.row r).length = c'.sz)
    (hc : ∀ r j, r < c'.rows → j < c'.sz → ∃ v u, cs'[r * p.sz + j]? = some v ∧ (c'.row r)[j]? = some u ∧ VR ι u v) :
    Ext ι H w (ι ++ [p]) (H.set b none ++ [some ⟨true, c'⟩]) (w.setRow rb cs') := by
  have hbk := hrh.blk b p blk hp hH
  obtain ⟨hbase, hcap, cs0, e0, hcs0, hcsz, _⟩ := hbk.own ho rb hb
  rw [hcs] at hcs0; simp only [Option.some.injEq, Obj.cells.injEq] at hcs0
  obtain ⟨rfl, rfl, _⟩ := hcs0
  have hsub : Sub ι (ι ++ [p]) := fun b q hb => getElem?_snoc_lt hb
  have hl := hrh.len
  have hs : ∀ (i : Nat) (c : Blk), (H.set b none)[i]? = some (some c) → H[i]? = some (some c) ∧ i ≠ b := by
    intro i c hc
    rw [List.getElem?_set] at hc
    split at hc
    · split at hc <;> cases hc
    · rename_i hne; exact ⟨hc, fun e => hne e.symm⟩
  refine ⟨⟨_, rfl⟩, ⟨by simp [hl], ?_, ?_, ?_⟩, ?_, ?_⟩
  · intro i q c hq hcq
    rcases getElem?_snoc hq with ⟨hq, hi⟩ | ⟨hi, rfl⟩
    · rcases getElem?_snoc hcq with ⟨hcq, _⟩ | ⟨hi', _⟩
      · obtain ⟨hcq, hne⟩ := hs i c hcq
        refine (hrh.blk i q c hq hcq).of_heap hsub fun rb' hrb' _ => setRow_other w rb rb' cs' fun e' => ?_
        subst e'
        exact hrh.sep b i p q blk c _ hp hH ho hq hcq (fun e => hne e.symm) hb hrb'
      · simp at hi'; omega
    · rcases getElem?_snoc hcq with ⟨hcq, hi'⟩ | ⟨_, hcq⟩
      · simp at hi'; omega
      · simp at hcq; subst hcq
        refine ⟨by rw [hbk.sz]; exact hsz.symm, hlen, fun r j hr hj => ?_, fun _ rb' hrb' => ?_⟩
        · obtain ⟨v, u, h1, h2, h3⟩ := hc r j hr hj
          exact ⟨rb, cs', e, (0, 0), v, u, hb, setRow_heap w rb cs cs' e (0, 0) hcs, by rw [hbase]; simpa using h1, h2, h3.mono hsub, hone _ v h1⟩
        · rw [hb] at hrb'; cases hrb'
          exact ⟨hbase, hrows, cs', e, setRow_heap w rb cs cs' e (0, 0) hcs, by rw [hsize, hcsz], hone⟩
  · intro i j q r c d rb' hq hcq hoq hr hdr hij hrb'
    rcases getElem?_snoc hq with ⟨hq1, hi⟩ | ⟨hi, rfl⟩
    · rcases getElem?_snoc hcq with ⟨hcq1, _⟩ | ⟨hi', _⟩
      · obtain ⟨hcq2, hne⟩ := hs i c hcq1
        rcases getElem?_snoc hr with ⟨hr1, hj⟩ | ⟨hj, hrp⟩
        · rcases getElem?_snoc hdr with ⟨hdr1, _⟩ | ⟨hj', _⟩
          · exact hrh.sep i j q r c d rb' hq1 hcq2 hoq hr1 (hs j d hdr1).1 hij hrb'
          · simp at hj'; omega
        · intro he
          rw [hrp] at he
          exact hrh.sep i b q p c blk rb' hq1 hcq2 hoq hp hH hne hrb' he
      · simp at hi'; omega
    · rw [hb] at hrb'; cases hrb'
      rcases getElem?_snoc hr with ⟨hr, hj⟩ | ⟨hj, rfl⟩
      · rcases getElem?_snoc hdr with ⟨hdr, _⟩ | ⟨hj', _⟩
        · obtain ⟨hdr, hne⟩ := hs j d hdr
          exact hrh.sep b j q r blk d _ hp hH ho hr hdr (fun e => hne e.symm) hb
        · simp at hj'; omega
      · omega
  · intro i q c rb' hq hcq hrb'
    simp only [setRow_size]
    rcases getElem?_snoc hq with ⟨hq, hi⟩ | ⟨hi, rfl⟩
    · rcases getElem?_snoc hcq with ⟨hcq, _⟩ | ⟨hi', _⟩
      · exact hrh.lt i q c rb' hq (hs i c hcq).1 hrb'
      · simp at hi'; omega
    · exact hrh.lt b q blk rb' hp hH hrb'
  · refine ⟨rfl, rfl, rfl, by simp, fun rb' hr hn => setRow_other w rb rb' cs' fun e' => ?_⟩
    subst e'
    exact hn ⟨b, p, blk, hp, hH, ho, hb⟩
  · rintro rb' ⟨i, q, c, hq, hcq, hoq, hrb'⟩
    left
    rcases getElem?_snoc hq with ⟨hq, hi⟩ | ⟨hi, rfl⟩
    · rcases getElem?_snoc hcq with ⟨hcq, _⟩ | ⟨hi', _⟩
      · exact ⟨i, q, c, hq, (hs i c hcq).1, hoq, hrb'⟩
      · simp at hi'; omega
    · exact ⟨b, q, blk, hp, hH, ho, hrb'⟩

theorem zeroCells_one {z : Value} (hz1 : ∀ v ∈ z.cells.toList, v.oneCell' = true) (n : Nat) : ∀ v ∈ (Builtin.zeroCells z.cells n).toList, v.oneCell' = true := by
  intro v hv
  simp only [Builtin.zeroCells, Array.toList_map, List.mem_map, Array.toList_range, List.mem_range] at hv
  obtain ⟨i, hi, rfl⟩ := hv
  have hpos : 0 < z.cells.size := by
    rcases Nat.eq_zero_or_pos z.cells.size with h | h
    · rw [h] at hi; omega
    · exact h
  have hm : i % z.cells.size < z.cells.size := Nat.mod_lt _ hpos
  rw [getElem!_pos z.cells (i % z.cells.size) hm]
  exact hz1 _ (by simp)

/-- A new block for what was there and what is appended. -/
theorem append_fresh {H : Heap} (hrh : RH ι H w) {t ty e : TypeId} {i : TypeInfo} {z : Value} (ht : P.underlying t = some (.slice e)) (hi : P.info? e = some i) (hz : i.zero = some z) (hzs : z.cells.size = i.size)
    (hz1 : ∀ v ∈ z.cells.toList, v.oneCell' = true) (base : Option Addr) (sLen sCap : Nat)
    (x' : Value) (xb : Option Addr) (n xc : Nat) (hx : x' = .slice xb n xc) (news olds : List Value) (c : Cont) (hsz : c.sz = i.size) (hrows : c.rows = sLen + n)
    (hf : (Builtin.firstCells i.size n x').run P w.drew = .ok ⟨news⟩ w.drew) (hfo : (Builtin.firstCells i.size sLen (.slice base sLen sCap)).run P w.drew = .ok ⟨olds⟩ w.drew)
    (hln : news.length = n * i.size) (hlo : olds.length = sLen * i.size) (h1 : ∀ u ∈ news, u.oneCell' = true) (h2 : ∀ u ∈ olds, u.oneCell' = true)
    (hlen : ∀ r, r < c.rows → (c.row r).length = c.sz)
    (hc : ∀ r j, r < c.rows → j < c.sz → ∃ v u, (olds ++ news)[r * c.sz + j]? = some v ∧ (c.row r)[j]? = some u ∧ VR ι u v)
    (hg : sCap < sLen + n) (hb : sLen + n ≤ 1073741824) (hby : i.bytes ≤ 1024) :
    Runs P (Builtin.append_ #[t, t] ty #[.slice base sLen sCap, x']) ι H w (.slice (some ⟨H.length, 0, none⟩) (sLen + n) 1) (H ++ [some ⟨true, c⟩]) := by
  have hr := run_append_more (P := P) (w := w) (ty := ty) ht hi hz base sLen sCap x' xb n xc hx news olds hf hfo hg hb hby
  have hge := grownCap_ge w (sLen + n) sCap e
  have hd : Drawn w w.drew := ⟨1, rfl⟩
  have hrd := hrh.drawn hd
  have hext := Ext.alloc hrd c (olds ++ news ++ (Builtin.zeroCells z.cells (grownCap w (sLen + n) sCap e - (sLen + n))).toList).toArray e (grownCap w (sLen + n) sCap e) (by omega)
    (by
      simp only [List.size_toArray, List.length_append, hln, hlo, Array.length_toList, size_zeroCells, hzs, hsz, ← Nat.add_mul]
      congr 1; omega) hlen
    (fun j v hv => by
      rw [List.getElem?_toArray] at hv
      have hm := List.mem_of_getElem? hv
      simp only [List.mem_append] at hm
      rcases hm with (hm | hm) | hm
      · exact h2 v hm
      · exact h1 v hm
      · exact zeroCells_one hz1 _ v hm)
    (fun r j hr' hj => by
      obtain ⟨v, u, g1, g2, g3⟩ := hc r j hr' hj
      refine ⟨v, u, ?_, g2, g3⟩
      rw [List.getElem?_toArray, List.getElem?_append_left (some_lt g1)]
      exact g1)
  refine ⟨_, _, _, hr, ?_, (Ext.drawn hrh hd).trans hext⟩
  have := VR.slice (ι := ι ++ [⟨some w.heap.size, 0, c.sz, grownCap w (sLen + n) sCap e⟩]) (b := H.length) (i := 0) (l := sLen + n) (c := 1) (c' := grownCap w (sLen + n) sCap e)
    (getElem?_new _ _ _ hrh.len) rfl hge (by simp) (by omega)
  simpa using this

set_option maxHeartbeats 2000000 in
theorem evAppend_sound {H H' : Heap} (hrh : RH ι H w) {t ty : TypeId} {s x s' x' v : Value} {whole : Bool} {vc : List Prop} (h : evAppend P H t s x whole = some (v, H', vc)) (hv : AllP vc) (hs : VR ι s s') (hx : VR ι x x') :
    Runs P (Builtin.append_ #[t, t] ty #[s', x']) ι H w v H' := by
  unfold evAppend at h
  split at h
  · rename_i el cx n vc0 hu hsrc
    split at h
    · rename_i i hi
      cases hcnd : (Nat.beq cx.sz i.size && Nat.blt 0 i.size && Nat.ble i.bytes 1024 && i.zero.isSome && Nat.beq (i.zero.getD undef).cells.size i.size && allP one1 (cellsV (i.zero.getD undef))) with
      | false => simp [hcnd] at h
      | true =>
        simp only [hcnd, cond_true] at h
        simp only [Bool.and_eq_true] at hcnd
        obtain ⟨⟨⟨⟨⟨hsz, hpos⟩, hby⟩, hzs⟩, hzz⟩, hzo⟩ := hcnd
        have hsz := Nat.eq_of_beq_eq_true hsz
        have hpos : 0 < i.size := Nat.le_of_ble_eq_true hpos
        have hby := Nat.le_of_ble_eq_true hby
        obtain ⟨z, hz⟩ := Option.isSome_iff_exists.1 hzs
        rw [hz] at hzz hzo
        have hzz : z.cells.size = i.size := Nat.eq_of_beq_eq_true hzz
        have hzo := one1_cells hzo
        -- a slice without room, of no element
        have fresh : ∀ (base : Option Addr), s' = .slice base 0 0 → AllP vc0 → n ≤ 1073741824 → Runs P (Builtin.append_ #[t, t] ty #[s', x']) ι H w (.slice (some ⟨H.length, 0, none⟩) n 1) (H ++ [some ⟨true, cx⟩]) := by
          intro base hb hv0 hn
          subst hb
          obtain ⟨xb, xc, news, rfl, r1, r2, r3, r4, r5, r6⟩ := srcCont_sound (P := P) hrh hsrc hv0 hx (by omega)
          rcases Nat.eq_zero_or_pos n with h0 | h0
          · subst h0
            refine ⟨_, _, _, run_append_none hu hi base xb 0 0 xc (Nat.le_refl 0), .slice0 (fun h => absurd h (by decide)), Ext.empty hrh cx true r1⟩
          · have := append_fresh (P := P) hrh (ty := ty) hu hi hz hzz hzo base 0 0 (.slice xb n xc) xb n xc rfl news [] cx hsz (by omega) (by rw [← hsz]; exact r4 w.drew rfl) (run_firstCells_zero _ _ _ _ _) (by rw [← hsz]; exact r3) (by simp) r5 (by simp)
              (fun r hr => r2 r (by omega)) (fun r j hr hj => by simpa using r6 r j (by omega) hj) (by omega) (by omega) hby
            simpa using this
        split at h
        · simp only [Option.some.injEq, Prod.mk.injEq] at h
          obtain ⟨rfl, rfl, rfl⟩ := h
          obtain ⟨hv0, hv1⟩ := allP_append _ _ hv
          cases hs
          exact fresh none rfl hv0 hv1.1
        · rename_i b r l cap
          cases hroom : (Nat.beq cap 0 && Nat.beq l 0) with
          | true =>
            simp only [hroom, cond_true] at h
            simp only [Bool.and_eq_true] at hroom
            have hc0 := Nat.eq_of_beq_eq_true hroom.1
            have hl0 := Nat.eq_of_beq_eq_true hroom.2
            subst hc0; subst hl0
            simp only [Option.some.injEq, Prod.mk.injEq] at h
            obtain ⟨rfl, rfl, rfl⟩ := h
            obtain ⟨hv0, hv1⟩ := allP_append _ _ hv
            cases hs with
            | slice hp hb hl hc h0 => have := h0 rfl; subst this; exact fresh _ rfl hv0 hv1.1
            | slice0 => exact fresh _ rfl hv0 hv1.1
          | false =>
          simp only [hroom, cond_false] at h
          split at h
          · rename_i blk hblk
            rw [blkAt_eq] at hblk
            cases ho : blk.own with
            | false => simp [ho] at h
            | true =>
              simp only [ho, cond_true] at h
              split at h
              · rename_i cs vc' hcut
                split at h
                · rename_i c happ
                  simp only [Option.some.injEq, Prod.mk.injEq] at h
                  obtain ⟨rfl, rfl, rfl⟩ := h
                  obtain ⟨hv0, hv2⟩ := allP_append _ _ hv
                  obtain ⟨hv0, hv1⟩ := allP_append _ _ hv0
                  obtain ⟨hr0, hcs0, hlr⟩ := cut_spec hcut hv1
                  subst hr0
                  subst hcs0
                  obtain ⟨a1, a2, a3, a4⟩ := app_spec happ
                  obtain ⟨xb, xc, news, hxe, r1, r2, r3, r4, r5, r6⟩ := srcCont_sound (P := P) hrh hsrc hv0 hx (by omega)
                  rw [setAt_eq]
                  have hkill := Ext.kill hrh b
                  have hlen : (H.set b none).length = H.length := by simp
                  -- both parts, in the real world
                  have hboth : ∀ olds : List Value, olds.length = blk.c.rows * cx.sz → (∀ i j, i < blk.c.rows → j < cx.sz → ∃ v u, olds[i * cx.sz + j]? = some v ∧ (blk.c.row i)[j]? = some u ∧ VR ι u v) →
                      ∀ r j, r < c.rows → j < c.sz → ∃ v u, (olds ++ news)[r * c.sz + j]? = some v ∧ (c.row r)[j]? = some u ∧ VR ι u v := by
                    intro olds ho1 ho2 r j hr hj
                    rw [a4 r]
                    have e : c.sz = cx.sz := by omega
                    rw [e] at hj ⊢
                    by_cases hr1 : r < blk.c.rows
                    · obtain ⟨v, u, g1, g2, g3⟩ := ho2 r j hr1 hj
                      exact ⟨v, u, by rw [List.getElem?_append_left (some_lt g1)]; exact g1, by rw [if_pos hr1]; exact g2, g3⟩
                    · obtain ⟨v, u, g1, g2, g3⟩ := r6 (r - blk.c.rows) j (by omega) hj
                      refine ⟨v, u, ?_, by rw [if_neg hr1]; exact g2, g3⟩
                      have e2 : r * cx.sz + j = olds.length + ((r - blk.c.rows) * cx.sz + j) := by
                        rw [ho1, ← Nat.add_assoc, ← Nat.add_mul]; congr 2; omega
                      rw [e2, List.getElem?_append_right (by omega)]
                      simpa using g1
                  have hclen : (∀ r, r < blk.c.rows → (blk.c.row r).length = blk.c.sz) → ∀ r, r < c.rows → (c.row r).length = c.sz := by
                    intro hlb r hr
                    rw [a4 r]
                    split
                    · rename_i h'; rw [hlb r h', a2]
                    · rw [r2 _ (by omega), a1, a2]
                  have after : ∀ {m : Sem Value} {u : Value} {H1 : Heap}, Runs P m ι (H.set b none) w u H1 → Runs P m ι H w u H1 :=
                    fun ⟨ι', v', w', g1, g2, g3⟩ => ⟨ι', v', w', g1, g2, hkill.trans g3⟩
                  cases hs with
                  | slice0 =>
                    -- nothing was there
                    rename_i xs _
                    have hr0 : blk.c.rows = 0 := hlr.symm
                    rw [Nat.zero_add]
                    rcases Nat.eq_zero_or_pos n with h0 | h0
                    · subst h0
                      subst hxe
                      have he := Ext.empty hkill.rh c true (by omega)
                      exact ⟨_, _, _, run_append_none hu hi xs xb 0 0 xc (Nat.le_refl 0), .slice0 (fun h => absurd h (by decide)), hkill.trans he⟩
                    · have := append_fresh (P := P) hkill.rh (ty := ty) hu hi hz hzz hzo xs 0 0 x' xb n xc hxe news [] c (by omega) (by omega) (by rw [← hsz]; exact r4 w.drew rfl) (run_firstCells_zero _ _ _ _ _) (by rw [← hsz]; exact r3) (by simp) r5 (by simp)
                        (hclen fun r hr => by omega) (hboth [] (by simp [hr0]) fun i j hi => by omega) (by omega) (by have := hv2.1; omega) hby
                      rw [hlen, Nat.zero_add] at this
                      exact after this
                  | slice hp hb hl hc h0 =>
                    rename_i c' p rb
                    have hbk := hrh.blk b p blk hp hblk
                    obtain ⟨hbase, hcap, cur, e', hcur, hcsz, hcone⟩ := hbk.own ho rb hb
                    have hps := hbk.sz
                    have haddr : (⟨rb, p.base + 0 * p.sz, none⟩ : Addr) = ⟨rb, 0, none⟩ := by rw [hbase]; simp
                    rw [haddr]
                    by_cases hfit : l + n ≤ c'
                    · -- in its place
                      have hcsz2 : c' * i.size ≤ cur.size := by
                        rw [hcsz, hps, ← a1, hsz]
                        exact Nat.mul_le_mul_right _ (by omega)
                      have hrun := run_append_fit (P := P) (ty := ty) hu hi rb l c' hcur x' xb n xc hxe news (by rw [← hsz]; exact r4 w rfl) (by rw [← hsz]; exact r3) r5 hfit hcsz2
                      have hfit3 : l * i.size + news.length ≤ cur.toList.length := by
                        have := Nat.mul_le_mul_right i.size hfit
                        rw [Nat.add_mul] at this
                        rw [r3, hsz]
                        simp only [Array.length_toList]; omega
                      have hext := Ext.inplace hrh (c' := c) (cs' := (splice cur.toList (l * i.size) news).toArray) hp hblk ho hb hcur
                        (by simp only [List.size_toArray]; rw [length_splice _ _ _ hfit3]; simp)
                        (fun j u hu' => by
                          rw [List.getElem?_toArray, getElem?_splice _ _ _ hfit3] at hu'
                          split at hu'
                          · exact r5 u (List.mem_of_getElem? hu')
                          · exact hcone j u (by simpa using hu'))
                        (by omega) a2 (hclen hbk.len)
                        (fun r j hr hj => by
                          rw [List.getElem?_toArray, getElem?_splice _ _ _ hfit3]
                          have e : c.sz = i.size := by omega
                          have e3 : p.sz = i.size := by omega
                          rw [e3]
                          rw [e] at hj
                          rw [a4 r]
                          by_cases hr1 : r < blk.c.rows
                          · rw [if_neg (by
                              intro hh
                              have := Nat.mul_le_mul_right i.size (show r + 1 ≤ l by omega)
                              rw [Nat.add_mul] at this
                              omega), if_pos hr1]
                            obtain ⟨rb', cs2, e2, f2, v2, u2, q1, q2, q3, q4, q5, _⟩ := hbk.cells r j hr1 (by omega)
                            rw [hb] at q1; cases q1
                            rw [hcur] at q2; cases q2
                            rw [hbase, e3] at q3
                            exact ⟨v2, u2, by simpa using q3, q4, q5⟩
                          · obtain ⟨v2, u2, g1, g2, g3⟩ := r6 (r - blk.c.rows) j (by omega) (by omega)
                            rw [hsz] at g1
                            have e2 : r * i.size + j = l * i.size + ((r - blk.c.rows) * i.size + j) := by
                              rw [← Nat.add_assoc, ← Nat.add_mul]; congr 2; omega
                            have hlt := some_lt g1
                            rw [e2, if_pos ⟨by omega, by omega⟩, if_neg hr1]
                            refine ⟨v2, u2, ?_, g2, g3⟩
                            rw [← g1]; congr 1; omega)
                      refine ⟨_, _, _, hrun, ?_, hext⟩
                      have := VR.slice (ι := ι ++ [p]) (b := H.length) (i := 0) (l := l + n) (c := 1) (c' := c') (getElem?_new _ _ _ hrh.len) hb hfit (by omega) (by omega)
                      rw [haddr] at this
                      exact this
                    · obtain ⟨olds, o1, o2, o3, o4⟩ := run_rows (P := P) (r := 0) (n := blk.c.rows) hrh hp hblk hb (by omega) (by omega)
                      rw [haddr] at o2
                      have hpsz : blk.c.sz = i.size := by omega
                      have hfo : (Builtin.firstCells i.size l (.slice (some ⟨rb, 0, none⟩) l c')).run P w.drew = .ok ⟨olds⟩ w.drew :=
                        run_firstCells_load _ _ _ _ _ _ _ (by rw [hlr, ← hpsz]; exact o2 w.drew rfl)
                      have := append_fresh (P := P) hkill.rh (ty := ty) hu hi hz hzz hzo (some ⟨rb, 0, none⟩) l c' x' xb n xc hxe news olds c (by omega) (by omega) (by rw [← hsz]; exact r4 w.drew rfl) hfo (by rw [← hsz]; exact r3)
                        (by rw [o1, hlr, hpsz]) r5 o3 (hclen hbk.len)
                        (hboth olds (by rw [o1, a1]) fun i j hi hj => by
                          rw [a1] at hj ⊢
                          have := o4 i j hi hj
                          rwa [Nat.zero_add] at this) (by omega) (by have := hv2.1; omega) hby
                      rw [hlen] at this
                      exact after this
                · cases h
              · cases h
          · cases h
        · cases h
    · cases h
  · cases h

/-! ### Copies of a slice into another -/

theorem run_copy {t ty e e' : TypeId} {ts : List TypeId} {i : TypeInfo} (ht : P.underlying t = some (.slice e)) (hi : P.info? e = some i) (g dLen dCap : Nat) {cur : Array Value} (hg : w.heap[g]? = some (.cells cur e' (0, 0)))
    (x' : Value) (xb : Option Addr) (n xc : Nat) (hx : x' = .slice xb n xc) (news : List Value) (hf : (Builtin.firstCells i.size n x').run P w = .ok ⟨news⟩ w) (hl : news.length = n * i.size) (h1 : ∀ u ∈ news, u.oneCell' = true)
    (hn : n ≤ dLen) (hfit : n * i.size ≤ cur.size) :
    (Builtin.copy_ ⟨t :: ts⟩ ty ⟨[.slice (some ⟨g, 0, none⟩) dLen dCap, x']⟩).run P w = .ok (.int .i64 (n : Int)) (w.setRow g (splice cur.toList 0 news).toArray) := by
  subst hx
  have hst := run_storeCells_at P g 0 e' news 0 cur w hg (by simpa [hl] using hfit) h1
  simp only [Nat.add_zero] at hst
  have hmin : Nat.min n dLen = n := Nat.min_eq_left hn
  have hmin2 : min n dLen = n := Nat.min_eq_left hn
  simp [Builtin.copy_, run_underlying ht, sizeOf, typeInfo, hi, Builtin.lenOf, hmin, hmin2, hf, goInt]
  rw [hst]
  rfl

theorem evCopy_sound {H H' : Heap} (hrh : RH ι H w) {t ty : TypeId} {ts : List TypeId} {d x d' x' v : Value} {vc : List Prop} (h : evCopy P H t d x = some (v, H', vc)) (hv : AllP vc) (hd : VR ι d d') (hx : VR ι x x') :
    Runs P (Builtin.copy_ ⟨t :: ts⟩ ty ⟨[d', x']⟩) ι H w v H' := by
  unfold evCopy at h
  split at h
  · rename_i el cx n vc0 b r l cap hu hsrc
    split at h
    · rename_i i blk hi hblk
      rw [blkAt_eq] at hblk
      cases hcnd : (Nat.beq cx.sz i.size && Nat.blt 0 i.size && blk.own) with
      | false => simp [hcnd] at h
      | true =>
        simp only [hcnd, cond_true] at h
        simp only [Bool.and_eq_true] at hcnd
        obtain ⟨⟨hsz, hpos⟩, ho⟩ := hcnd
        have hsz := Nat.eq_of_beq_eq_true hsz
        have hpos : 0 < i.size := Nat.le_of_ble_eq_true hpos
        split at h
        · rename_i c0 vc1 cr vc2 hcut hpart
          split at h
          · rename_i c happ
            simp only [Option.some.injEq, Prod.mk.injEq] at h
            obtain ⟨rfl, rfl, rfl⟩ := h
            obtain ⟨hv0, hv3⟩ := allP_append _ _ hv
            obtain ⟨hv0, hv2⟩ := allP_append _ _ hv0
            obtain ⟨hv0, hv1⟩ := allP_append _ _ hv0
            obtain ⟨hr0, hcs0, hlr⟩ := cut_spec hcut hv1
            subst hr0
            obtain ⟨p1, p2, p3, p4⟩ := part_spec hpart hv2
            obtain ⟨a1, a2, a3, a4⟩ := app_spec happ
            have hnl : n ≤ l := hv3.1
            have hl0 : 0 < l := hv3.2.1
            obtain ⟨xb, xc, news, hxe, r1, r2, r3, r4, r5, r6⟩ := srcCont_sound (P := P) hrh hsrc hv0 hx (by omega)
            rw [setAt_eq]
            cases hd with
            | slice0 => omega
            | slice hp hb hl hc h0 =>
              rename_i c' p rb
              have hbk := hrh.blk b p blk hp hblk
              obtain ⟨hbase, hcap, cur, e', hcur, hcsz, hcone⟩ := hbk.own ho rb hb
              have hps := hbk.sz
              have haddr : (⟨rb, p.base + 0 * p.sz, none⟩ : Addr) = ⟨rb, 0, none⟩ := by rw [hbase]; simp
              rw [haddr]
              have hisz : blk.c.sz = i.size := by omega
              have hfit : n * i.size ≤ cur.size := by
                rw [hcsz, hps, hisz]
                exact Nat.mul_le_mul_right _ (by omega)
              have hrun := run_copy (P := P) (ty := ty) (ts := ts) hu hi rb l c' hcur x' xb n xc hxe news (by rw [← hsz]; exact r4 w rfl) (by rw [← hsz]; exact r3) r5 hnl hfit
              have hfit3 : 0 + news.length ≤ cur.toList.length := by
                rw [r3, hsz]; simp only [Array.length_toList]; omega
              have hcr : c.rows = blk.c.rows := by omega
              have hext := Ext.put hrh (c' := c) (cs' := (splice cur.toList 0 news).toArray) hp hblk ho hb hcur
                (by simp only [List.size_toArray]; rw [length_splice _ _ _ hfit3]; simp)
                (fun j u hu' => by
                  rw [List.getElem?_toArray, getElem?_splice _ _ _ hfit3] at hu'
                  split at hu'
                  · exact r5 u (List.mem_of_getElem? hu')
                  · exact hcone j u (by simpa using hu'))
                hcr (by omega)
                (fun r hr => by
                  rw [a4 r]
                  split
                  · rename_i h'; rw [r2 _ (by omega)]; omega
                  · rw [p4 _ (by omega)]; exact hbk.len _ (by omega))
                (fun r j hr hj => by
                  rw [List.getElem?_toArray, getElem?_splice _ _ _ hfit3]
                  have e3 : p.sz = i.size := by omega
                  rw [e3]
                  rw [hisz] at hj
                  rw [a4 r]
                  by_cases hr1 : r < n
                  · obtain ⟨v2, u2, g1, g2, g3⟩ := r6 r j hr1 (by omega)
                    rw [hsz] at g1
                    have hlt := some_lt g1
                    rw [if_pos ⟨by omega, by omega⟩, if_pos (by omega)]
                    exact ⟨v2, u2, by simpa using g1, g2, g3⟩
                  · rw [if_neg (by
                      intro hh
                      have := Nat.mul_le_mul_right i.size (show n ≤ r by omega)
                      rw [r3, hsz] at hh
                      omega), if_neg (by omega)]
                    obtain ⟨rb', cs2, e2, f2, v2, u2, q1, q2, q3, q4, q5, _⟩ := hbk.cells r j hr (by omega)
                    rw [hb] at q1; cases q1
                    rw [hcur] at q2; cases q2
                    rw [hbase, e3] at q3
                    refine ⟨v2, u2, by simpa using q3, ?_, q5⟩
                    rw [p4 _ (by omega), r1, show n + (r - n) = r by omega]; exact q4)
              exact ⟨_, _, _, hrun, .int .i64 _, hext⟩
          · cases h
        · cases h
    · cases h
  · cases h

end
end Go.Sim
end

section
namespace Go.Sim
open Go

theorem pos_spec : ∀ {m : List Nat} {b k : Nat}, pos b m = some k → m[k]? = some b
  | [], b, k, h => by cases h
  | x :: l, b, k, h => by
    simp only [pos] at h
    cases hb : Nat.beq b x with
    | true =>
      simp only [hb, cond_true, Option.some.injEq] at h
      subst h
      have := Nat.eq_of_beq_eq_true hb
      simp [this]
    | false =>
      simp only [hb, cond_false, Option.map_eq_some_iff] at h
      obtain ⟨j, hj, rfl⟩ := h
      simpa using pos_spec hj

/-- A value that names no block stands for the same whatever the places. -/
def Free (u : Value) : Prop := (∃ b, u = .bool b) ∨ (∃ k n, u = .int k n) ∨ (∃ k x, u = .float k x) ∨ (∃ k x y, u = .complex k x y) ∨ (∃ s, u = .string s)

theorem VR.free {ι ι2 : List Place} {u v : Value} (h : VR ι u v) (hf : Free u) : VR ι2 u v := by
  rcases hf with ⟨b, rfl⟩ | ⟨k, n, rfl⟩ | ⟨k, x, rfl⟩ | ⟨k, x, y, rfl⟩ | ⟨s, rfl⟩ <;> cases h
  · exact .bool _
  · exact .int _ _
  · exact .float ‹_› ‹_›
  · exact .complex ‹_› ‹_› ‹_› ‹_›
  · exact .string _

theorem free_sc (s : Sc) : Free s.v := by
  cases s with
  | b t => exact .inl ⟨t, rfl⟩
  | i k n => exact .inr (.inl ⟨k, n, rfl⟩)
  | f k x => exact .inr (.inr (.inl ⟨k, x, rfl⟩))
  | s t => exact .inr (.inr (.inr (.inr ⟨t, rfl⟩)))

/-- A change of names: 'g' takes each block's name to the new one; places go along. -/
structure Ren (ι ι2 : List Place) (g : Nat → Option Nat) : Prop where
  on : ∀ (b b' : Nat) (p : Place), g b = some b' → ι[b]? = some p → ι2[b']? = some p

/-- 'r' renames values in the way of 'g'. -/
def RenV (g : Nat → Option Nat) (r : Value → Option Value) : Prop :=
  ∀ (ι ι2 : List Place) (v u v' : Value), Ren ι ι2 g → r v = some u → VR ι v v' → VR ι2 u v'

theorem mapO_length {α β : Type} {f : α → Option β} : ∀ {l : List α} {r : List β}, mapO f l = some r → r.length = l.length
  | [], r, h => by cases h; rfl
  | x :: l, r, h => by
    simp only [mapO] at h
    cases h1 : f x with
    | none => simp [h1] at h
    | some y => cases h2 : mapO f l with
      | none => simp [h1, h2] at h
      | some r' => simp [h1, h2] at h; subst h; simp [mapO_length h2]

theorem mapO_get {α β : Type} {f : α → Option β} : ∀ {l : List α} {r : List β}, mapO f l = some r → ∀ (j : Nat) (x : α), l[j]? = some x → ∃ y, f x = some y ∧ r[j]? = some y
  | [], r, h, j, x, hx => by simp at hx
  | z :: l, r, h, j, x, hx => by
    simp only [mapO] at h
    cases h1 : f z with
    | none => simp [h1] at h
    | some y => cases h2 : mapO f l with
      | none => simp [h1, h2] at h
      | some r' =>
        simp [h1, h2] at h; subst h
        cases j with
        | zero => simp at hx; subst hx; exact ⟨y, h1, rfl⟩
        | succ j => simpa using mapO_get h2 j x (by simpa using hx)

theorem RenV.list {g : Nat → Option Nat} {r : Value → Option Value} (hr : RenV g r) {ι ι2 : List Place} (h : Ren ι ι2 g) : ∀ {l u l' : List Value}, mapO r l = some u → VRs ι l l' → VRs ι2 u l'
  | [], u, l', hm, hl => by cases hm; cases hl; exact .nil
  | v :: l, u, l', hm, hl => by
    simp only [mapO] at hm
    cases h1 : r v with
    | none => simp [h1] at hm
    | some y => cases h2 : mapO r l with
      | none => simp [h1, h2] at hm
      | some r' =>
        simp [h1, h2] at hm; subst hm
        cases hl with | cons hv hs => exact .cons (hr ι ι2 v y _ h h1 hv) (RenV.list hr h h2 hs)

theorem renV_rvI0 (m : List Nat) : RenV (fun b => pos b m) (rvI0 m) := by
  intro ι ι2 v u v' hren h hv
  unfold rvI0 at h
  split at h
  case h_1 =>
    rename_i b i s
    cases hp : pos b m with
    | none => simp [hp] at h
    | some b' => simp [hp] at h; subst h; cases hv with | ptr h1 h2 => exact .ptr (hren.on _ _ _ hp h1) h2
  case h_2 =>
    rename_i b i s l c
    cases hp : pos b m with
    | none => simp [hp] at h
    | some b' =>
      simp [hp] at h; subst h
      cases hv with
      | slice h1 h2 h3 h4 h5 => exact .slice (hren.on _ _ _ hp h1) h2 h3 h4 h5
      | slice0 hx => exact .slice0 hx
  all_goals try (simp only [Option.some.injEq] at h; subst h)
  all_goals first
    | (cases h; done)
    | (cases hv <;> first | exact .bool _ | exact .int _ _ | exact .float ‹_› ‹_› | exact .complex ‹_› ‹_› ‹_› ‹_› | exact .string _ | exact .nilFunc | exact .nilp | exact .nils | (rename_i hh; cases hh; exact .tuple .nil))

theorem renV_rvI1 (m : List Nat) : RenV (fun b => pos b m) (rvI1 m) := by
  intro ι ι2 v u v' hren h hv
  unfold rvI1 at h
  split at h
  · simp only [Option.map_eq_some_iff] at h
    obtain ⟨r, hr, rfl⟩ := h
    cases hv with | agg hl => exact .agg ((renV_rvI0 m).list hren hr hl)
  · rename_i fn f c
    cases h1 : mapO (rvI0 m) f with
    | none => simp [h1] at h
    | some f' => cases h2 : mapO (rvI0 m) c with
      | none => simp [h1, h2] at h
      | some c' =>
        simp [h1, h2] at h; subst h
        cases hv with | func _ hf hc => exact .func _ ((renV_rvI0 m).list hren h1 hf) ((renV_rvI0 m).list hren h2 hc)
  · exact renV_rvI0 m ι ι2 v u v' hren h hv

theorem renV_rvI (m : List Nat) : RenV (fun b => pos b m) (rvI m) := by
  intro ι ι2 v u v' hren h hv
  unfold rvI at h
  split at h
  · simp only [Option.map_eq_some_iff] at h
    obtain ⟨r, hr, rfl⟩ := h
    cases hv with | tuple hl => exact .tuple ((renV_rvI1 m).list hren hr hl)
  · exact renV_rvI1 m ι ι2 v u v' hren h hv

theorem renV_rvF0 (f : Nat → Nat) : RenV (fun b => some (f b)) (rvF0 f) := by
  intro ι ι2 v u v' hren h hv
  unfold rvF0 at h
  split at h
  case h_1 => simp only [Option.some.injEq] at h; subst h; cases hv with | ptr h1 h2 => exact .ptr (hren.on _ _ _ rfl h1) h2
  case h_2 =>
    simp only [Option.some.injEq] at h; subst h
    cases hv with
    | slice h1 h2 h3 h4 h5 => exact .slice (hren.on _ _ _ rfl h1) h2 h3 h4 h5
    | slice0 hx => exact .slice0 hx
  all_goals try (simp only [Option.some.injEq] at h; subst h)
  all_goals first
    | (cases h; done)
    | (cases hv <;> first | exact .bool _ | exact .int _ _ | exact .float ‹_› ‹_› | exact .complex ‹_› ‹_› ‹_› ‹_› | exact .string _ | exact .nilFunc | exact .nilp | exact .nils | (rename_i hh; cases hh; exact .tuple .nil))

theorem renV_rvF1 (f : Nat → Nat) : RenV (fun b => some (f b)) (rvF1 f) := by
  intro ι ι2 v u v' hren h hv
  unfold rvF1 at h
  split at h
  · simp only [Option.map_eq_some_iff] at h
    obtain ⟨r, hr, rfl⟩ := h
    cases hv with | agg hl => exact .agg ((renV_rvF0 f).list hren hr hl)
  · rename_i fn g c
    cases h1 : mapO (rvF0 f) g with
    | none => simp [h1] at h
    | some f' => cases h2 : mapO (rvF0 f) c with
      | none => simp [h1, h2] at h
      | some c' =>
        simp [h1, h2] at h; subst h
        cases hv with | func _ hf hc => exact .func _ ((renV_rvF0 f).list hren h1 hf) ((renV_rvF0 f).list hren h2 hc)
  · exact renV_rvF0 f ι ι2 v u v' hren h hv

theorem renV_rvF (f : Nat → Nat) : RenV (fun b => some (f b)) (rvF f) := by
  intro ι ι2 v u v' hren h hv
  unfold rvF at h
  split at h
  · simp only [Option.map_eq_some_iff] at h
    obtain ⟨r, hr, rfl⟩ := h
    cases hv with | tuple hl => exact .tuple ((renV_rvF1 f).list hren hr hl)
  · exact renV_rvF1 f ι ι2 v u v' hren h hv

/-- A content under other names. -/
theorem cont_ren {g : Nat → Option Nat} {r : Value → Option Value} (hr : RenV g r) {c c' : Cont} (h : (match c with | .vs l => (mapO r l).map Cont.vs | c => some c) = some c') :
    c'.rows = c.rows ∧ c'.sz = c.sz ∧ (∀ i, (c'.row i).length = (c.row i).length) ∧
    ∀ (ι ι2 : List Place), Ren ι ι2 g → ∀ (i j : Nat) (u v : Value), (c.row i)[j]? = some u → VR ι u v → ∃ u', (c'.row i)[j]? = some u' ∧ VR ι2 u' v := by
  have triv : ∀ (c : Cont), (∀ i j u, (c.row i)[j]? = some u → Free u) → c.rows = c.rows ∧ c.sz = c.sz ∧ (∀ i, (c.row i).length = (c.row i).length) ∧
    ∀ (ι ι2 : List Place), Ren ι ι2 g → ∀ (i j : Nat) (u v : Value), (c.row i)[j]? = some u → VR ι u v → ∃ u', (c.row i)[j]? = some u' ∧ VR ι2 u' v :=
    fun c hf => ⟨rfl, rfl, fun _ => rfl, fun ι ι2 _ i j u v hu hv => ⟨u, hu, hv.free (hf i j u hu)⟩⟩
  cases c with
  | vs l =>
    simp only [Option.map_eq_some_iff] at h
    obtain ⟨l', hl, rfl⟩ := h
    refine ⟨rfl, by simp [Cont.sz, mapO_length hl], fun i => by simp [Cont.row, mapO_length hl], fun ι ι2 hren i j u v hu hv => ?_⟩
    obtain ⟨u', h1, h2⟩ := mapO_get hl j u hu
    exact ⟨u', h2, hr ι ι2 u u' v hren h1 hv⟩
  | fl k xs =>
    simp only [Option.some.injEq] at h; subst h
    refine triv _ fun i j u hu => ?_
    cases j with
    | zero => simp [Cont.row] at hu; subst hu; exact .inr (.inr (.inl ⟨_, _, rfl⟩))
    | succ j => simp [Cont.row] at hu
  | it k xs =>
    simp only [Option.some.injEq] at h; subst h
    refine triv _ fun i j u hu => ?_
    cases j with
    | zero => simp [Cont.row] at hu; subst hu; exact .inr (.inl ⟨_, _, rfl⟩)
    | succ j => simp [Cont.row] at hu
  | cx k xs =>
    simp only [Option.some.injEq] at h; subst h
    refine triv _ fun i j u hu => ?_
    cases j with
    | zero => simp [Cont.row] at hu; subst hu; exact .inr (.inr (.inr (.inl ⟨_, _, _, rfl⟩)))
    | succ j => simp [Cont.row] at hu
  | fn n sz gg =>
    simp only [Option.some.injEq] at h; subst h
    refine triv _ fun i j u hu => ?_
    simp only [Cont.row, List.getElem?_map, Option.map_eq_some_iff] at hu
    obtain ⟨s, _, rfl⟩ := hu
    exact free_sc s

theorem reI_eq (m : List Nat) (c : Cont) : c.reI m = (match c with | .vs l => (mapO (rvI1 m) l).map Cont.vs | c => some c) := by cases c <;> rfl
theorem reF_eq (f : Nat → Nat) (c : Cont) : c.reF f = (match c with | .vs l => (mapO (rvF1 f) l).map Cont.vs | c => some c) := by cases c <;> rfl

/-- A block under other names. -/
theorem BlkOk.ren {g : Nat → Option Nat} {r : Value → Option Value} (hr : RenV g r) {ι ι2 : List Place} {w : World} {p : Place} {b : Blk} {c' : Cont} {o : Bool} (h : BlkOk ι w p b)
    (hc : (match b.c with | .vs l => (mapO r l).map Cont.vs | c => some c) = some c') (hren : Ren ι ι2 g) (ho : o = true → b.own = true) : BlkOk ι2 w p ⟨o, c'⟩ := by
  obtain ⟨c1, c2, c3, c4⟩ := cont_ren hr hc
  refine ⟨by rw [h.sz]; exact c2.symm, fun i hi => ?_, fun i j hi hj => ?_, fun ho' rb hrb => ?_⟩
  · show (c'.row i).length = c'.sz
    rw [c3, c2]; exact h.len i (by rw [← c1]; exact hi)
  · obtain ⟨rb, cs, e, f, v, u, h1, h2, h3, h4, h5, h6⟩ := h.cells i j (by rw [← c1]; exact hi) (by rw [← c2]; exact hj)
    obtain ⟨u', g1, g2⟩ := c4 ι ι2 hren i j u v h4 h5
    exact ⟨rb, cs, e, f, v, u', h1, h2, h3, g1, g2, h6⟩
  · obtain ⟨h1, h2, h3⟩ := h.own (ho ho') rb hrb
    exact ⟨h1, by show c'.rows ≤ _; rw [c1]; exact h2, h3⟩

/-! ### Handing blocks on -/

theorem memN_spec : ∀ {l : List Nat} {b : Nat}, memN b l = false → b ∉ l
  | [], b, _ => by simp
  | x :: l, b, h => by
    simp only [memN, Bool.or_eq_false_iff] at h
    have := memN_spec h.2
    intro hm
    rcases List.mem_cons.1 hm with rfl | hm
    · simp at h
    · exact this hm

theorem onceOwn_spec : ∀ {m : List (Nat × Bool)}, onceOwn m = true → ∀ (i j : Nat) (b c : Nat) (o : Bool), m[i]? = some (b, true) → m[j]? = some (c, o) → i ≠ j → b ≠ c
  | [], _, i, j, b, c, o, hi, _, _ => by simp at hi
  | (x, ox) :: m, h, i, j, b, c, o, hi, hj, hij => by
    simp only [onceOwn, Bool.and_eq_true, Bool.or_eq_true] at h
    obtain ⟨h, hrest⟩ := h
    cases i with
    | zero =>
      simp at hi
      obtain ⟨rfl, rfl⟩ := hi
      cases j with
      | zero => exact absurd rfl hij
      | succ j =>
        simp at h
        have hm := memN_spec h
        simp at hj
        intro e; subst e
        exact hm (List.mem_map.2 ⟨(x, o), List.mem_of_getElem? hj, rfl⟩)
    | succ i =>
      simp at hi
      cases j with
      | zero =>
        simp at hj
        obtain ⟨rfl, rfl⟩ := hj
        intro e; subst e
        rcases h with ⟨h1, h2⟩ | ⟨h1, h2⟩
        · have hm := memN_spec (by simpa using h2)
          exact hm (List.mem_filterMap.2 ⟨(b, true), List.mem_of_getElem? hi, rfl⟩)
        · have hm := memN_spec (by simpa using h2)
          exact hm (List.mem_map.2 ⟨(b, true), List.mem_of_getElem? hi, rfl⟩)
      | succ j =>
        simp at hj
        exact onceOwn_spec hrest i j b c o hi hj (by omega)

theorem heapIo_length {mm : List Nat} {H : Heap} : ∀ {m : List (Nat × Bool)} {h : Heap}, heapIo mm H m = some h → h.length = m.length
  | [], h, e => by cases e; rfl
  | (b, o) :: m, h, e => by
    simp only [heapIo] at e
    split at e
    · rename_i blk r _ hr
      simp only [Option.map_eq_some_iff] at e
      obtain ⟨c, _, rfl⟩ := e
      simp [heapIo_length hr]
    · rename_i r _ hr
      simp only [Option.some.injEq] at e; subst e
      simp [heapIo_length hr]
    · cases e

theorem heapIo_get {mm : List Nat} {H : Heap} : ∀ {m : List (Nat × Bool)} {h : Heap}, heapIo mm H m = some h → ∀ (k b : Nat) (o : Bool), m[k]? = some (b, o) →
    b < H.length ∧ ∀ (c : Blk), h[k]? = some (some c) → ∃ blk : Blk, H[b]? = some (some blk) ∧ c.own = (blk.own && o) ∧ blk.c.reI mm = some c.c
  | [], h, e, k, b, o, hk => by simp at hk
  | (b0, o0) :: m, h, e, k, b, o, hk => by
    simp only [heapIo] at e
    split at e
    · rename_i blk r hb hr
      rw [nth_eq] at hb
      simp only [Option.map_eq_some_iff] at e
      obtain ⟨c0, hc0, rfl⟩ := e
      cases k with
      | zero =>
        simp at hk
        obtain ⟨rfl, rfl⟩ := hk
        exact ⟨some_lt hb, fun c hc => by simp at hc; subst hc; exact ⟨blk, hb, rfl, hc0⟩⟩
      | succ k => simpa using heapIo_get hr k b o (by simpa using hk)
    · rename_i r hb hr
      rw [nth_eq] at hb
      simp only [Option.some.injEq] at e; subst e
      cases k with
      | zero =>
        simp at hk
        obtain ⟨rfl, rfl⟩ := hk
        exact ⟨some_lt hb, fun c hc => by simp at hc⟩
      | succ k => simpa using heapIo_get hr k b o (by simpa using hk)
    · cases e

/-- The places of the blocks that are handed on. -/
def placesOf (ι : List Place) (mm : List Nat) : List Place := mm.map fun b => (ι[b]?).getD ⟨none, 0, 0, 0⟩

theorem placesOf_get {ι : List Place} {mm : List Nat} {k b : Nat} (h : mm[k]? = some b) {p : Place} (hp : ι[b]? = some p) : (placesOf ι mm)[k]? = some p := by
  simp [placesOf, h, hp]

theorem placesOf_back {ι : List Place} {mm : List Nat} {k : Nat} {p : Place} (h : (placesOf ι mm)[k]? = some p) (hlt : ∀ b ∈ mm, b < ι.length) : ∃ b, mm[k]? = some b ∧ ι[b]? = some p := by
  simp only [placesOf, List.getElem?_map, Option.map_eq_some_iff] at h
  obtain ⟨b, hb, hp⟩ := h
  have := hlt b (List.mem_of_getElem? hb)
  refine ⟨b, hb, ?_⟩
  rw [List.getElem?_eq_getElem this] at hp ⊢
  simpa using hp

theorem ren_places (ι : List Place) (mm : List Nat) : Ren ι (placesOf ι mm) (fun b => pos b mm) :=
  ⟨fun _ _ _ h hp => placesOf_get (pos_spec h) hp⟩

/-- The memory that is handed on. -/
theorem RH.hand {ι : List Place} {H h : Heap} {w : World} (hrh : RH ι H w) {m : List (Nat × Bool)} (e : heapIo (m.map (·.1)) H m = some h) (honce : onceOwn m = true) :
    RH (placesOf ι (m.map (·.1))) h w ∧ (∀ rb, Own (placesOf ι (m.map (·.1))) h rb → ∃ (b : Nat) (p : Place) (blk : Blk) (k : Nat), m[k]? = some (b, true) ∧ ι[b]? = some p ∧ H[b]? = some (some blk) ∧ blk.own = true ∧ p.blk = some rb) := by
  have hlen := heapIo_length e
  have hil := hrh.len
  have hlt : ∀ b ∈ m.map (·.1), b < ι.length := by
    intro b hb
    obtain ⟨k, hk⟩ := List.getElem?_of_mem hb
    simp only [List.getElem?_map, Option.map_eq_some_iff] at hk
    obtain ⟨⟨b', o⟩, hk, rfl⟩ := hk
    have := (heapIo_get e k b' o hk).1
    omega
  have key : ∀ (k : Nat) (p : Place) (c : Blk), (placesOf ι (m.map (·.1)))[k]? = some p → h[k]? = some (some c) → ∃ (b : Nat) (o : Bool) (blk : Blk), m[k]? = some (b, o) ∧ ι[b]? = some p ∧ H[b]? = some (some blk) ∧ c.own = (blk.own && o) ∧ blk.c.reI (m.map (·.1)) = some c.c := by
    intro k p c hp hc
    obtain ⟨b, hb, hpb⟩ := placesOf_back hp hlt
    simp only [List.getElem?_map, Option.map_eq_some_iff] at hb
    obtain ⟨⟨b', o⟩, hk, rfl⟩ := hb
    obtain ⟨blk, g1, g2, g3⟩ := (heapIo_get e k b' o hk).2 c hc
    exact ⟨b', o, blk, hk, hpb, g1, g2, g3⟩
  refine ⟨⟨by simp [placesOf, hlen], ?_, ?_, ?_⟩, ?_⟩
  · intro k p c hp hc
    obtain ⟨b, o, blk, h1, h2, h3, h4, h5⟩ := key k p c hp hc
    rw [reI_eq] at h5
    obtain ⟨co, cc⟩ := c
    exact (hrh.blk b p blk h2 h3).ren (renV_rvI1 _) h5 (ren_places ι _) (fun ho => by simp only at h4; rw [h4] at ho; simp at ho; exact ho.1)
  · intro k j p q c d rb hp hc ho hq hd hkj hrb
    obtain ⟨b, o, blk, h1, h2, h3, h4, h5⟩ := key k p c hp hc
    obtain ⟨b', o', blk', g1, g2, g3, g4, g5⟩ := key j q d hq hd
    rw [ho] at h4
    have h4' : blk.own = true ∧ o = true := by simpa using h4.symm
    obtain ⟨hbo, rfl⟩ := h4'
    have hne := onceOwn_spec honce k j b b' o' h1 g1 hkj
    exact hrh.sep b b' p q blk blk' rb h2 h3 hbo g2 g3 hne hrb
  · intro k p c rb hp hc hrb
    obtain ⟨b, o, blk, h1, h2, h3, h4, h5⟩ := key k p c hp hc
    exact hrh.lt b p blk rb h2 h3 hrb
  · rintro rb ⟨k, p, c, hp, hc, ho, hrb⟩
    obtain ⟨b, o, blk, h1, h2, h3, h4, h5⟩ := key k p c hp hc
    rw [ho] at h4
    have h4' : blk.own = true ∧ o = true := by simpa using h4.symm
    obtain ⟨hbo, rfl⟩ := h4'
    exact ⟨b, p, blk, k, h1, h2, h3, hbo, hrb⟩

/-! ### Taking the callee's memory back -/

/-- A block that was handed on to be written. -/
def Gave (H : Heap) (m : List (Nat × Bool)) (k b : Nat) : Prop := m[k]? = some (b, true) ∧ ∃ blk : Blk, H[b]? = some (some blk) ∧ blk.own = true

theorem mergeOld_spec (f : Nat → Nat) : ∀ {m : List (Nat × Bool)} {H hl h : Heap}, mergeOld f H m hl = some h → onceOwn m = true → m.length ≤ hl.length →
    h.length = H.length ∧ (∀ (i : Nat), (∀ k, ¬ Gave H m k i) → h[i]? = H[i]?) ∧
    (∀ (k b : Nat), Gave H m k b → ∃ x x', hl[k]? = some x ∧ blkF f x = some x' ∧ h[b]? = some x')
  | [], H, hl, h, e, _, _ => by
    simp only [mergeOld, Option.some.injEq] at e; subst e
    exact ⟨rfl, fun _ _ => rfl, fun k b hg => by have := hg.1; simp at this⟩
  | (b0, o0) :: m, H, [], h, e, _, hl => by simp at hl
  | (b0, o0) :: m, H, x :: hl, h, e, hon, hlen => by
    have hrest : onceOwn m = true := by simp only [onceOwn, Bool.and_eq_true] at hon; exact hon.2
    have hlen' : m.length ≤ hl.length := by simpa using hlen
    simp only [mergeOld] at e
    -- whether the first was handed on to be written
    split at e
    · rename_i hgv
      have hg0 : ∃ blk : Blk, H[b0]? = some (some blk) ∧ blk.own = true ∧ o0 = true := by
        split at hgv
        · rename_i blk hb
          rw [nth_eq] at hb
          simp only [Bool.and_eq_true] at hgv
          exact ⟨blk, hb, hgv.1, hgv.2⟩
        · cases hgv
      obtain ⟨blk0, hb0, hown0, rfl⟩ := hg0
      split at e
      · rename_i x' hx'
        rw [setAt_eq] at e
        obtain ⟨i1, i2, i3⟩ := mergeOld_spec f e hrest hlen'
        have hne : ∀ k b, m[k]? = some (b, true) → b0 ≠ b := fun k b hk => onceOwn_spec hon 0 (k + 1) b0 b true rfl (by simpa using hk) (by omega)
        have hgave : ∀ k b, Gave (H.set b0 x') m k b ↔ Gave H m k b := by
          intro k b
          constructor
          · rintro ⟨h1, blk, h2, h3⟩
            have := hne k b h1
            rw [List.getElem?_set, if_neg this] at h2
            exact ⟨h1, blk, h2, h3⟩
          · rintro ⟨h1, blk, h2, h3⟩
            have := hne k b h1
            exact ⟨h1, blk, by rw [List.getElem?_set, if_neg this]; exact h2, h3⟩
        refine ⟨by rw [i1]; simp, fun i hi => ?_, fun k b hg => ?_⟩
        · rw [i2 i fun k hk => hi (k + 1) ⟨by simpa using ((hgave k i).1 hk).1, ((hgave k i).1 hk).2⟩]
          have : b0 ≠ i := fun e => hi 0 ⟨by simp [e], blk0, by rw [← e]; exact hb0, hown0⟩
          rw [List.getElem?_set, if_neg this]
        · cases k with
          | zero =>
            have h1 := hg.1
            simp at h1
            subst h1
            refine ⟨x, x', rfl, hx', ?_⟩
            rw [i2 b0 fun k hk => hne k b0 hk.1 rfl, List.getElem?_set, if_pos rfl]
            simp [some_lt hb0]
          | succ k =>
            have hg' : Gave H m k b := ⟨by simpa using hg.1, hg.2⟩
            simpa using i3 k b ((hgave k b).2 hg')
      · cases e
    · rename_i hgv
      obtain ⟨i1, i2, i3⟩ := mergeOld_spec f e hrest hlen'
      refine ⟨i1, fun i hi => i2 i fun k hk => hi (k + 1) ⟨by simpa using hk.1, hk.2⟩, fun k b hg => ?_⟩
      cases k with
      | zero =>
        exfalso
        obtain ⟨h1, blk, h2, h3⟩ := hg
        simp at h1
        obtain ⟨rfl, rfl⟩ := h1
        rw [nth_eq, h2] at hgv
        simp [h3] at hgv
      | succ k => simpa using i3 k b ⟨by simpa using hg.1, hg.2⟩

theorem allOwn_spec : ∀ {l : Heap}, allOwn l = true → ∀ (k : Nat) (b : Blk), l[k]? = some (some b) → b.own = true
  | [], _, k, b, h => by simp at h
  | none :: l, h, k, b, hk => by
    cases k with
    | zero => simp at hk
    | succ k => exact allOwn_spec (by simpa [allOwn] using h) k b (by simpa using hk)
  | some c :: l, h, k, b, hk => by
    simp only [allOwn, Bool.and_eq_true] at h
    cases k with
    | zero => simp at hk; subst hk; exact h.1
    | succ k => exact allOwn_spec h.2 k b (by simpa using hk)

theorem blkF_some {f : Nat → Nat} {x : Option Blk} {b : Blk} (h : blkF f x = some (some b)) : ∃ a : Blk, x = some a ∧ b.own = a.own ∧ a.c.reF f = some b.c := by
  cases x with
  | none => simp [blkF] at h
  | some a =>
    simp only [blkF, Option.map_eq_some_iff, Option.some.injEq] at h
    obtain ⟨c, hc, rfl⟩ := h
    exact ⟨a, rfl, rfl, hc⟩

/-- Behind a call: the caller's memory. -/
theorem Ext.back {ι : List Place} {H : Heap} {w w' : World} (hrh : RH ι H w) {m : List (Nat × Bool)} {ch hl H' : Heap} {l : List Place} (e : heapIo (m.map (·.1)) H m = some ch) (honce : onceOwn m = true)
    (hext : Ext (placesOf ι (m.map (·.1))) ch w (placesOf ι (m.map (·.1)) ++ l) hl w') (hm : merge (backN (m.map (·.1)) H.length) H m hl = some H') :
    Ext ι H w (ι ++ l) H' w' ∧ Ren (placesOf ι (m.map (·.1)) ++ l) (ι ++ l) (fun b => some (backN (m.map (·.1)) H.length b)) := by
  have hil := hrh.len
  obtain ⟨hrc, hownc⟩ := hrh.hand e honce
  have hlt : ∀ b ∈ m.map (·.1), b < ι.length := by
    intro b hb
    obtain ⟨k, hk⟩ := List.getElem?_of_mem hb
    simp only [List.getElem?_map, Option.map_eq_some_iff] at hk
    obtain ⟨⟨b', o⟩, hk, rfl⟩ := hk
    have := (heapIo_get e k b' o hk).1
    omega
  have hpl : (placesOf ι (m.map (·.1))).length = m.length := by simp [placesOf]
  have hback1 : ∀ k b o, m[k]? = some (b, o) → backN (m.map (·.1)) H.length k = b := by
    intro k b o hk
    unfold backN
    rw [nth_eq]
    simp [hk]
  have hback2 : ∀ k, m.length ≤ k → backN (m.map (·.1)) H.length k = H.length + (k - m.length) := by
    intro k hk
    unfold backN
    rw [nth_eq, List.getElem?_eq_none (by simpa using hk)]
    simp
  have hren : Ren (placesOf ι (m.map (·.1)) ++ l) (ι ++ l) (fun b => some (backN (m.map (·.1)) H.length b)) := by
    refine ⟨fun k k' p hk hp => ?_⟩
    simp only [Option.some.injEq] at hk
    subst hk
    rcases Nat.lt_or_ge k m.length with h | h
    · rw [List.getElem?_append_left (by omega)] at hp
      obtain ⟨b, hb, hpb⟩ := placesOf_back hp hlt
      simp only [List.getElem?_map, Option.map_eq_some_iff] at hb
      obtain ⟨⟨b', o⟩, hk, rfl⟩ := hb
      rw [hback1 k b' o hk, List.getElem?_append_left (some_lt hpb)]
      exact hpb
    · rw [List.getElem?_append_right (by omega), hpl] at hp
      rw [hback2 k h, List.getElem?_append_right (by omega)]
      rw [← hp]; congr 1; omega
  refine ⟨?_, hren⟩
  generalize hf : backN (m.map (·.1)) H.length = f at *
  unfold merge at hm
  split at hm
  · rename_i h1 n hmo hmn
    cases hcnd : (Nat.ble m.length hl.length && allOwn (dropN m.length hl)) with
    | false => simp [hcnd] at hm
    | true =>
      simp only [hcnd, cond_true, Option.some.injEq] at hm
      subst hm
      simp only [Bool.and_eq_true] at hcnd
      have hle := Nat.le_of_ble_eq_true hcnd.1
      have hall := allOwn_spec hcnd.2
      rw [dropN_eq] at hmn hall
      obtain ⟨o1, o2, o3⟩ := mergeOld_spec f hmo honce hle
      have hrl := hext.rh
      have hl3 := hrl.len
      have hln : n.length = l.length := by
        rw [mapO_length hmn]
        simp only [List.length_drop]
        simp only [List.length_append, hpl] at hl3
        omega
      -- the callee's blocks, seen from the caller
      have gave : ∀ k b, Gave H m k b → ∃ (p : Place) (blk : Blk), ι[b]? = some p ∧ (placesOf ι (m.map (·.1)) ++ l)[k]? = some p ∧ H[b]? = some (some blk) ∧ blk.own = true ∧ f k = b := by
        rintro k b ⟨h1', blk, h2, h3⟩
        have hb := some_lt h2
        refine ⟨ι[b], blk, List.getElem?_eq_getElem (by omega), ?_, h2, h3, hback1 k b true h1'⟩
        rw [List.getElem?_append_left (by rw [hpl]; exact some_lt h1')]
        exact placesOf_get (by simp [h1']) (List.getElem?_eq_getElem (by omega))
      -- each live block of the new memory is an untouched old one or one of the callee's
      have cls : ∀ (i : Nat) (p : Place) (c : Blk), (ι ++ l)[i]? = some p → (h1 ++ n)[i]? = some (some c) →
          (ι[i]? = some p ∧ H[i]? = some (some c) ∧ (∀ k, ¬ Gave H m k i)) ∨
          (∃ (k : Nat) (a : Blk), f k = i ∧ (placesOf ι (m.map (·.1)) ++ l)[k]? = some p ∧ hl[k]? = some (some a) ∧ c.own = a.own ∧ a.c.reF f = some c.c ∧ (Gave H m k i ∨ (m.length ≤ k ∧ a.own = true))) := by
        intro i p c hp hc
        rcases Nat.lt_or_ge i H.length with hi | hi
        · rw [List.getElem?_append_left (by omega)] at hp
          rw [List.getElem?_append_left (by omega)] at hc
          by_cases hg : ∃ k, Gave H m k i
          · obtain ⟨k, hg⟩ := hg
            obtain ⟨p', blk, g1, g2, g3, g4, g5⟩ := gave k i hg
            obtain ⟨x, x', y1, y2, y3⟩ := o3 k i hg
            rw [y3] at hc; cases hc
            obtain ⟨a, rfl, b1, b2⟩ := blkF_some y2
            rw [hp] at g1; cases g1
            exact .inr ⟨k, a, g5, g2, y1, b1, b2, .inl hg⟩
          · rw [o2 i fun k hk => hg ⟨k, hk⟩] at hc
            exact .inl ⟨hp, hc, fun k hk => hg ⟨k, hk⟩⟩
        · rw [List.getElem?_append_right (by omega)] at hp
          rw [List.getElem?_append_right (by omega)] at hc
          have hil' : i - ι.length < l.length := some_lt hp
          obtain ⟨x, hx⟩ : ∃ x, (hl.drop m.length)[i - h1.length]? = some x := ⟨_, List.getElem?_eq_getElem (by have := some_lt hc; rw [mapO_length hmn] at this; exact this)⟩
          obtain ⟨y, hy1, hy2⟩ := mapO_get hmn _ x hx
          rw [hy2] at hc; cases hc
          obtain ⟨a, rfl, b1, b2⟩ := blkF_some hy1
          refine .inr ⟨m.length + (i - H.length), a, ?_, ?_, ?_, b1, b2, .inr ⟨by omega, hall _ _ hx⟩⟩
          · rw [hback2 _ (by omega)]; omega
          · rw [List.getElem?_append_right (by omega), hpl, ← hp]; congr 1; omega
          · rw [List.getElem?_drop] at hx; rw [← hx]; congr 1; omega
      -- the callee writes none of the untouched blocks
      have ownc : ∀ rb, Own (placesOf ι (m.map (·.1))) ch rb → ∀ (i : Nat) (p : Place) (c : Blk), ι[i]? = some p → H[i]? = some (some c) → (∀ k, ¬ Gave H m k i) → p.blk ≠ some rb := by
        intro rb ho i p c hp hc hn
        obtain ⟨b, q, blk, k, q1, q2, q3, q4, q5⟩ := hownc rb ho
        exact hrh.sep b i q p blk c rb q2 q3 q4 hp hc (fun e => hn k (by rw [← e]; exact ⟨q1, blk, q3, q4⟩)) q5
      refine ⟨⟨l, rfl⟩, ⟨by simp [hil, o1, hln], ?_, ?_, ?_⟩, ?_, ?_⟩
      · intro i p c hp hc
        rcases cls i p c hp hc with ⟨c1, c2, c3⟩ | ⟨k, a, c1, c2, c3, c4, c5, c6⟩
        · refine (hrh.blk i p c c1 c2).of_heap (fun b q hb => by rw [List.getElem?_append_left (some_lt hb)]; exact hb) fun rb hrb hlt' => ?_
          exact hext.fr.block rb hlt' fun ho => ownc rb ho i p c c1 c2 c3 hrb
        · rw [reF_eq] at c5
          obtain ⟨co, cc⟩ := c
          exact (hrl.blk k p a c2 c3).ren (renV_rvF1 f) c5 hren (fun ho => by simp only at c4; rw [← c4]; exact ho)
      · intro i j p q c d rb hp hc ho hq hd hij hrb
        rcases cls i p c hp hc with ⟨c1, c2, c3⟩ | ⟨k, a, c1, c2, c3, c4, c5, c6⟩
        · rcases cls j q d hq hd with ⟨d1, d2, d3⟩ | ⟨k', a', d1, d2, d3, d4, d5, d6⟩
          · exact hrh.sep i j p q c d rb c1 c2 ho d1 d2 hij hrb
          · intro hqb
            rcases d6 with hg | ⟨hge, hown⟩
            · obtain ⟨p', blk, g1, g2, g3, g4, g5⟩ := gave k' j hg
              rw [d2] at g2; cases g2
              exact hrh.sep i j p q c blk rb c1 c2 ho g1 g3 hij hrb hqb
            · rcases hext.fresh rb ⟨k', q, a', d2, d3, hown, hqb⟩ with h' | h'
              · exact ownc rb h' i p c c1 c2 c3 hrb
              · have := hrh.lt i p c rb c1 c2 hrb; omega
        · have hao : a.own = true := by rw [← c4]; exact ho
          rcases cls j q d hq hd with ⟨d1, d2, d3⟩ | ⟨k', a', d1, d2, d3, d4, d5, d6⟩
          · intro hqb
            rcases hext.fresh rb ⟨k, p, a, c2, c3, hao, hrb⟩ with h' | h'
            · exact ownc rb h' j q d d1 d2 d3 hqb
            · have := hrh.lt j q d rb d1 d2 hqb; omega
          · exact hrl.sep k k' p q a a' rb c2 c3 hao d2 d3 (fun e => hij (by rw [← c1, ← d1, e])) hrb
      · intro i p c rb hp hc hrb
        rcases cls i p c hp hc with ⟨c1, c2, c3⟩ | ⟨k, a, c1, c2, c3, c4, c5, c6⟩
        · exact Nat.lt_of_lt_of_le (hrh.lt i p c rb c1 c2 hrb) hext.fr.size
        · exact hrl.lt k p a rb c2 c3 hrb
      · exact hext.fr.mono fun rb ho => by
          obtain ⟨b, q, blk, k, q1, q2, q3, q4, q5⟩ := hownc rb ho
          exact ⟨b, q, blk, q2, q3, q4, q5⟩
      · rintro rb ⟨i, p, c, hp, hc, ho, hrb⟩
        rcases cls i p c hp hc with ⟨c1, c2, c3⟩ | ⟨k, a, c1, c2, c3, c4, c5, c6⟩
        · exact .inl ⟨i, p, c, c1, c2, ho, hrb⟩
        · rcases hext.fresh rb ⟨k, p, a, c2, c3, by rw [← c4]; exact ho, hrb⟩ with h' | h'
          · obtain ⟨b, q, blk, k, q1, q2, q3, q4, q5⟩ := hownc rb h'
            exact .inl ⟨b, q, blk, q2, q3, q4, q5⟩
          · exact .inr h'
  · cases hm

end Go.Sim
end
