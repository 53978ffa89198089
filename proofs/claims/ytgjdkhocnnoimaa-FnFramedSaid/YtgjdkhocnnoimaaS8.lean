/- A pure account of the values, floats and memory of a run, and how it stands to the model's (part 8: the evaluator of single operations is right: new blocks, slices, append). Conditions: none. -/
import Derived.Test.YtgjdkhocnnoimaaS7
import Derived.Laws.AppendOwn
namespace Go.Sim
open Go

section
variable {P : Program} {ι : List Place} {w : World}

theorem Ext.new_place {ι' : List Place} {H H' : Heap} {w w' : World} (h : Ext ι H w ι' H' w') : Sub ι ι' := h.sub

theorem getElem?_new {α : Type} (l : List α) (x : α) (n : Nat) (h : l.length = n) : (l ++ [x])[n]? = some x := by subst h; simp

/-- A variable in memory of its own. -/
theorem box_sound {H : Heap} (hrh : RH ι H w) {v v' : Value} (hv : VR ι v v') (h1 : allP one1 (cellsV v) = true) (t : TypeId) :
    Runs P (Instr.box t v') ι H w (.pointer (some ⟨H.length, 0, some 0⟩)) (H ++ [some ⟨true, .vs (cellsV v)⟩]) := by
  have hc := hv.cells
  have hl := hc.length
  have hext := Ext.alloc hrh (.vs (cellsV v)) v'.cells t 1 (by simp [Cont.rows]) (by simp [Cont.sz, hl]) (fun _ _ => rfl)
    (fun j u hu => hc.ones h1 u (List.mem_of_getElem? (by simpa using hu)))
    (fun r j hr hj => by
      simp only [Cont.rows] at hr
      obtain rfl : r = 0 := by omega
      simp only [Cont.sz] at hj
      obtain ⟨u', hu', hvr⟩ := hc.get j _ (List.getElem?_eq_getElem hj)
      exact ⟨u', _, by simpa using hu', List.getElem?_eq_getElem hj, hvr⟩) rfl
  refine ⟨_, _, _, rfl, ?_, hext⟩
  have := VR.ptr (ι := ι ++ [⟨some w.heap.size, 0, (Cont.vs (cellsV v)).sz, 1⟩]) (b := H.length) (i := 0) (j := 0) (getElem?_new _ _ _ hrh.len) rfl
  simpa using this

theorem alloc_sound {H : Heap} (hrh : RH ι H w) {t : TypeId} {i : TypeInfo} {z : Value} (hi : P.info? t = some i) (hz : i.zero = some z) (hp : plain z = true) (h1 : allP one1 (cellsV z) = true) :
    Runs P (Instr.alloc t true (.tuple #[])) ι H w (.pointer (some ⟨H.length, 0, some 0⟩)) (H ++ [some ⟨true, .vs (cellsV z)⟩]) := by
  obtain ⟨ι', v', w', h1', h2, h3⟩ := box_sound (P := P) hrh (vr_plain (ι := ι) hp) h1 t
  refine ⟨ι', v', w', ?_, h2, h3⟩
  rw [← h1']
  simp [Instr.alloc, Instr.box, zeroValue, typeInfo, hi, hz]

theorem zeros_spec {z : Value} {n : Nat} {c : Cont} (h : zeros z n = some c) : c.rows = n ∧ c.sz = (cellsV z).length ∧ (∀ r, r < n → c.row r = cellsV z) ∧ allP plain1 (cellsV z) = true ∧ allP one1 (cellsV z) = true := by
  cases z <;> simp only [zeros] at h <;> try (cases h; done)
  case int k x =>
    simp only [Option.some.injEq] at h; subst h
    exact ⟨by simp [Cont.rows], rfl, fun r hr => by simp [Cont.row, cellsV, List.getD, hr], rfl, rfl⟩
  case float k x =>
    cases hp : plain1 (.float k x) with
    | false => simp [hp] at h
    | true =>
      simp only [hp, cond_true, Option.some.injEq] at h; subst h
      exact ⟨by simp [Cont.rows], rfl, fun r hr => by simp [Cont.row, cellsV, List.getD, hr], by simp [cellsV, allP, hp], rfl⟩
  case complex k x y =>
    cases hp : plain1 (.complex k x y) with
    | false => simp [hp] at h
    | true =>
      simp only [hp, cond_true, Option.some.injEq] at h; subst h
      exact ⟨by simp [Cont.rows], rfl, fun r hr => by simp [Cont.row, cellsV, List.getD, hr], by simp [cellsV, allP, hp], rfl⟩
  case agg cs =>
    obtain ⟨cs⟩ := cs
    simp only at h
    cases hs : scsOf cs with
    | none => simp [hs] at h
    | some ss =>
      cases hp : allP plain1 cs with
      | false => simp [hs, hp] at h
      | true =>
        simp only [hs, hp, cond_true, Option.some.injEq] at h; subst h
        have e := scsOf_eq hs
        refine ⟨rfl, by simp [Cont.sz, cellsV, e], fun r hr => by simp [Cont.row, cellsV, e], by simpa [cellsV] using hp, ?_⟩
        simp only [cellsV, e]
        clear hp hs e
        induction ss with
        | nil => rfl
        | cons s ss ih => simp only [List.map_cons, allP, Bool.and_eq_true]; exact ⟨by cases s <;> rfl, ih⟩

theorem zeros_plain {z : Value} {n : Nat} {c : Cont} (h : zeros z n = some c) : c.plainC = true := by
  unfold zeros at h
  repeat' first | (simp only [reduceCtorEq] at h; done) | (cases h; done) | split at h
  all_goals
    first
    | (simp only [Option.some.injEq] at h; subst h; rfl)
    | (generalize hb : plain1 _ = b at h
       cases b <;> simp only [cond_true, cond_false, Option.some.injEq, reduceCtorEq] at h
       subst h; rfl)
    | (generalize hb : allP plain1 _ = b at h
       cases b <;> simp only [cond_true, cond_false, Option.some.injEq, reduceCtorEq] at h
       subst h; rfl)

theorem cells_toList (z : Value) (h : ∀ cs, z ≠ .agg cs) : z.cells.toList = [z] := by cases z <;> first | rfl | exact absurd rfl (h _)

theorem cellsV_eq (z : Value) : cellsV z = z.cells.toList := by
  cases z with
  | agg cs => obtain ⟨cs⟩ := cs; rfl
  | _ => rfl

theorem evMake_sound {H H' : Heap} (hrh : RH ι H w) {t : TypeId} {l c l' c' v : Value} {n : Nat} {vc : List Prop} (h : evMake P H t l c n = some (v, H', vc)) (hv : AllP vc) (hl : VR ι l l') (hc : VR ι c c') :
    Runs P (Instr.makeSlice t l' c') ι H w v H' := by
  unfold evMake at h
  split at h
  · rename_i el kl a kc b hu
    cases hl; cases hc
    split at h
    · rename_i i hi
      split at h
      · rename_i z hz
        split at h
        · rename_i ct hct
          cases hcnd : Nat.beq i.size (cellsV z).length && Nat.blt 0 i.size with
          | false => simp [hcnd] at h
          | true =>
            simp only [hcnd, cond_true, Option.some.injEq, Prod.mk.injEq] at h
            obtain ⟨rfl, rfl, rfl⟩ := h
            simp only [Bool.and_eq_true] at hcnd
            have hsz := Nat.eq_of_beq_eq_true hcnd.1
            have hpos : 0 < i.size := Nat.le_of_ble_eq_true hcnd.2
            obtain ⟨ha, hab, hby, hb1, _⟩ := hv
            subst ha
            obtain ⟨z1, z2, z3, z4, z5⟩ := zeros_spec hct
            have hm := run_make (P := P) w t el i z hu hi hz kl kc (n : Int) b (by omega) hab (by rw [Int.mul_comm]; omega) (by omega)
            obtain ⟨m, rfl⟩ := Int.eq_ofNat_of_zero_le (show 0 ≤ b by omega)
            simp only [Int.toNat_natCast] at hm hab
            have hnm : n ≤ m := by omega
            have hcells : ∀ j, j < m * i.size → (madeCells z.cells (m * i.size))[j]? = (cellsV z)[j % i.size]? := by
              intro j hj
              have h1 : z.cells.size = i.size := by rw [hsz, cellsV_eq]; simp
              have h2 : j % i.size < i.size := Nat.mod_lt _ hpos
              simp [madeCells, hj, h1, cellsV_eq]
              rw [getElem!_pos z.cells (j % i.size) (by omega)]
              exact (Array.getElem?_eq_getElem (by omega)).symm
            have hext := Ext.alloc hrh ct (madeCells z.cells (m * i.size)) el m (by omega) (by rw [size_madeCells, z2, hsz]) (fun r hr => by rw [z3 r (by omega), z2])
              (fun j u hu => by
                have hj : j < m * i.size := by
                  rcases Nat.lt_or_ge j (m * i.size) with h' | h'
                  · exact h'
                  · rw [Array.getElem?_eq_none (by rw [size_madeCells]; exact h')] at hu; cases hu
                rw [hcells j hj] at hu
                exact (vrs_plain1 (ι := ι) z4).ones z5 u (List.mem_of_getElem? hu))
              (fun r j hr hj => by
                rw [z2, ← hsz] at hj ⊢
                have hlt : r * i.size + j < m * i.size := by
                  have := Nat.mul_le_mul_right i.size (show r + 1 ≤ m by omega)
                  rw [Nat.add_mul] at this; omega
                have hmod : (r * i.size + j) % i.size = j := by rw [Nat.mul_comm, Nat.mul_add_mod, Nat.mod_eq_of_lt hj]
                have hjl : j < (cellsV z).length := by omega
                refine ⟨(cellsV z)[j], (cellsV z)[j], ?_, ?_, ?_⟩
                · rw [hcells _ hlt, hmod]; exact List.getElem?_eq_getElem hjl
                · rw [z3 r (by omega)]; exact List.getElem?_eq_getElem hjl
                · obtain ⟨u', hu', hvr⟩ := (vrs_plain1 (ι := ι) z4).get j _ (List.getElem?_eq_getElem hjl)
                  rw [List.getElem?_eq_getElem hjl] at hu'; cases hu'
                  exact hvr) (zeros_plain hct)
            refine ⟨_, _, _, hm, ?_, hext⟩
            have := VR.slice (ι := ι ++ [⟨some w.heap.size, 0, ct.sz, m⟩]) (b := H.length) (i := 0) (l := n) (c := 1) (c' := m) (getElem?_new _ _ _ hrh.len) rfl hnm (by simp) (by omega)
            simpa using this
        · cases h
      · cases h
    · cases h
  · cases h

/-! ### Parts put together -/

theorem foldl_set_list (off : Nat) : ∀ (l : List Value) (k : Nat) (cells : Array Value), off + k + l.length ≤ cells.size →
    ((l.zipIdx k).foldl (fun (cs : Array Value) (p : Value × Nat) => cs.setIfInBounds (off + p.2) p.1) cells).toList = splice cells.toList (off + k) l
  | [], k, cells, _ => by simp [splice]
  | v :: l, k, cells, h => by
    simp only [List.length_cons] at h
    simp only [List.zipIdx_cons, List.foldl_cons]
    rw [foldl_set_list off l (k + 1) _ (by simp; omega)]
    unfold splice
    have e := list_seg_step cells.toList (off + k) v l (by simp; omega)
    simp only [Array.toList_setIfInBounds]
    rw [show off + (k + 1) = off + k + 1 from by omega, e]
    simp

theorem fill_step (place : Nat → Option (Nat × Nat)) (cells : Array Value) (i : Nat) (v : Value) (rest : List (Nat × Value)) (off size : Nat) (hp : place i = some (off, size)) (hs : v.cells.size = size)
    (hle : off + size ≤ cells.size) : Instr.fill place cells ((i, v) :: rest) = Instr.fill place (splice cells.toList off v.cells.toList).toArray rest := by
  have e : v.cells.zipIdx.foldl (fun cs (c, j) => cs.setIfInBounds (off + j) c) cells = (splice cells.toList off v.cells.toList).toArray := by
    apply Array.ext'
    have := foldl_set_list off v.cells.toList 0 cells (by simp; omega)
    simp only [Nat.add_zero] at this
    rw [← this]
    rw [← Array.foldl_toList]
    simp [Array.toList_zipIdx]
  simp only [Instr.fill, hp]
  rw [if_neg (by simp; omega), e]

theorem evParts_sound {e : Env} {ρ : Operand → Value} (henv : EnvOk ι e ρ) : ∀ {ps : List (Nat × Operand)} {l : List (Nat × Value)}, evParts e ps = some l →
    ∃ l', ps.map (fun p => (p.1, ρ p.2)) = l' ∧ l'.map (·.1) = l.map (·.1) ∧ VRs ι (l.map (·.2)) (l'.map (·.2))
  | [], l, h => by cases h; exact ⟨[], rfl, rfl, .nil⟩
  | (i, x) :: ps, l, h => by
    simp only [evParts] at h
    cases h1 : evx e x with
    | none => simp [h1] at h
    | some v => cases h2 : evParts e ps with
      | none => simp [h1, h2] at h
      | some r =>
        simp [h1, h2] at h; subst h
        obtain ⟨l', e1, e2, e3⟩ := evParts_sound henv h2
        exact ⟨(i, ρ x) :: l', by simp [← e1], by simp [e2], by simpa using VRs.cons (henv x v h1) e3⟩

theorem VRs.splice {l l' us us' : List Value} (h : VRs ι l l') (g : VRs ι us us') (j : Nat) : VRs ι (Sim.splice l j us) (Sim.splice l' j us') := by
  unfold Sim.splice
  rw [g.length]
  exact ((h.take j).append g).append (h.drop _)

theorem fillV_sound {fs : List Field} (places : List (Nat × Nat)) (hpl : ∀ (i : Nat) (fd : Field), fs[i]? = some fd → (P.info? fd.type).isSome = true → places[i]? = some (fd.offset, P.cellsOf fd.type)) :
    ∀ {parts parts' : List (Nat × Value)} {cells r : List Value} {cells' : Array Value}, fillV P fs cells parts = some r → parts'.map (·.1) = parts.map (·.1) → VRs ι (parts.map (·.2)) (parts'.map (·.2)) →
      VRs ι cells cells'.toList → ∃ r', Instr.fill (places.toArray[·]?) cells' parts' = some r' ∧ VRs ι r r'.toList
  | [], [], cells, r, cells', h, _, _, hc => by simp [fillV] at h; subst h; exact ⟨cells', rfl, hc⟩
  | [], _ :: _, _, _, _, _, he, _, _ => by simp at he
  | _ :: _, [], _, _, _, _, he, _, _ => by simp at he
  | (i, v) :: parts, (i', v') :: parts', cells, r, cells', h, he, hv, hc => by
    simp only [List.map_cons, List.cons.injEq] at he
    obtain ⟨rfl, he⟩ := he
    cases hv with | cons hv hvs =>
    simp only [fillV] at h
    split at h
    · rename_i fd hfd
      cases hcnd : (Nat.beq (cellsV v).length (P.cellsOf fd.type) && Nat.ble (fd.offset + (cellsV v).length) cells.length && (P.info? fd.type).isSome) with
      | false => simp [hcnd] at h
      | true =>
        simp only [hcnd, cond_true] at h
        simp only [Bool.and_eq_true] at hcnd
        have h1 := Nat.eq_of_beq_eq_true hcnd.1.1
        have h2 := Nat.le_of_ble_eq_true hcnd.1.2
        rw [nth_eq] at hfd
        have hplace := hpl _ fd hfd hcnd.2
        have hcl := hv.cells.length
        have hlc := hc.length
        have hstep := fill_step (places.toArray[·]?) cells' i' v' parts' fd.offset (P.cellsOf fd.type) (by simpa using hplace) (by rw [← h1, hcl]; simp) (by simp at hlc; omega)
        rw [hstep]
        exact fillV_sound places hpl h he hvs (by simpa using hc.splice hv.cells fd.offset)
    · cases h

theorem evBuild_sound {t : TypeId} {parts parts' : List (Nat × Value)} {v : Value} (h : evBuild P t parts = some v) (he : parts'.map (·.1) = parts.map (·.1)) (hv : VRs ι (parts.map (·.2)) (parts'.map (·.2))) :
    Quiet P (Instr.build t parts'.toArray) ι w v := by
  unfold evBuild at h
  split at h
  · rename_i fs i hu hi
    split at h
    · rename_i z hz
      cases hcnd : (allP plain1 z && evBuild.allInfo P fs) with
      | false => simp [hcnd] at h
      | true =>
        simp only [hcnd, cond_true, Option.map_eq_some_iff] at h
        obtain ⟨r, hr, rfl⟩ := h
        simp only [Bool.and_eq_true] at hcnd
        have hpl : ∀ fs : List Field, evBuild.allInfo P fs = true → ∃ places, fs.mapM (fun f => (P.info? f.type).map fun i => (f.offset, i.size)) = some places ∧
            ∀ (i : Nat) (fd : Field), fs[i]? = some fd → (P.info? fd.type).isSome = true → places[i]? = some (fd.offset, P.cellsOf fd.type) := by
          intro fs
          induction fs with
          | nil => intro _; exact ⟨[], rfl, fun i fd hh => by simp at hh⟩
          | cons fd fs ih =>
            intro hall
            simp only [evBuild.allInfo, Bool.and_eq_true] at hall
            obtain ⟨pl, e1, e2⟩ := ih hall.2
            obtain ⟨ii, hii⟩ := Option.isSome_iff_exists.1 hall.1
            refine ⟨(fd.offset, ii.size) :: pl, by simp [List.mapM_cons, hii, e1], fun k fd' hk hs => ?_⟩
            cases k with
            | zero => simp at hk; subst hk; simp [Program.cellsOf, hii]
            | succ k => simpa using e2 k fd' (by simpa using hk) hs
        obtain ⟨places, e1, e2⟩ := hpl fs hcnd.2
        obtain ⟨r', e3, e4⟩ := fillV_sound places e2 (cells' := ⟨z⟩) hr he hv (vrs_plain1 hcnd.1)
        have hb : P.built t parts'.toArray.toList = some r' := by
          unfold Program.built
          rw [hi, hu]
          simp only [hz]
          simp [e1]
          simpa [Value.cells] using e3
        refine ⟨_, w, run_build w t parts'.toArray r' hb, Drawn.refl w, ?_⟩
        obtain ⟨r'⟩ := r'
        exact .agg e4
    · cases h
  · cases h

end
end Go.Sim
