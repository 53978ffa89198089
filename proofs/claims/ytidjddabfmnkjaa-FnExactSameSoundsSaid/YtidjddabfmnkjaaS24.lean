/- A pure account of the values, floats and memory of a run, and how it stands to the model's (part 24: rows that hold slices are made and written). Conditions: none. -/
import Derived.Test.YtidjddabfmnkjaaS11
namespace Go.Sim
open Go

/-! ### New blocks whose slices are nobody's -/

theorem hid_snocN {ι : List Place} {H : Heap} {w w' : World} {q : Place} {b : Option Blk} (h : RH ι H w) (hw : ∀ rb : Nat, rb < w.heap.size → w'.heap[rb]? = w.heap[rb]?) (hs : w.heap.size ≤ w'.heap.size) (hq : ∀ rb, q.blk = some rb → w.heap.size ≤ rb)
    (hnew : ∀ r j own xs v, HidCell (ι ++ [q]) (H ++ [b]) w' H.length r j own xs v → InnOk w' own v xs ∧ ∀ rb, ¬ Inner v rb) :
    HidOk (ι ++ [q]) (H ++ [b]) w' ∧ ∀ rb, Own2 (ι ++ [q]) (H ++ [b]) w' rb → Own2 ι H w rb := by
  have hlen := h.len
  have key : ∀ i r j own xs v, HidCell (ι ++ [q]) (H ++ [b]) w' i r j own xs v → HidCell ι H w i r j own xs v ∨ (InnOk w' own v xs ∧ ∀ rb, ¬ Inner v rb) := by
    rintro i r j own xs v ⟨p, c, n, sz, g, o, rb, cs, e, f, h1, h2, h3, h4, h5, h6, h7, h8, h9⟩
    rcases getElem?_snoc h2 with ⟨g2, hi⟩ | ⟨hi, g2⟩
    · rcases getElem?_snoc h1 with ⟨g1, _⟩ | ⟨hi', _⟩
      · exact .inl ⟨p, c, n, sz, g, o, rb, cs, e, f, g1, g2, h3, h4, h5, h6, h7, by rw [← hw rb (h.lt i p c rb g1 g2 h7)]; exact h8, h9⟩
      · omega
    · subst hi
      exact .inr (hnew _ _ _ _ _ ⟨p, c, n, sz, g, o, rb, cs, e, f, h1, h2, h3, h4, h5, h6, h7, h8, h9⟩)
  refine ⟨⟨?_, ?_, ?_, ?_, ?_⟩, ?_⟩
  · intro i r j own xs v hc
    rcases key _ _ _ _ _ _ hc with k | ⟨k, _⟩
    · exact (h.hid.ok _ _ _ _ _ _ k).of_heap id fun rb _ => hw rb
    · exact k
  · intro i r j own xs v rb hc hi
    rcases key _ _ _ _ _ _ hc with k | ⟨_, k⟩
    · exact Nat.lt_of_lt_of_le (h.hid.lt _ _ _ _ _ _ _ k hi) hs
    · exact absurd hi (k rb)
  · intro i p c rb hp hc ho hrb i' r j own xs v hcc hi
    rcases key _ _ _ _ _ _ hcc with k | ⟨_, k⟩
    · rcases getElem?_snoc hp with ⟨g1, hi1⟩ | ⟨_, rfl⟩
      · rcases getElem?_snoc hc with ⟨g2, _⟩ | ⟨hi2, _⟩
        · exact h.hid.s1 i p c rb g1 g2 ho hrb _ _ _ _ _ _ k hi
        · omega
      · have := hq rb hrb
        have := h.hid.lt _ _ _ _ _ _ _ k hi
        omega
    · exact k rb hi
  · intro i r j xs v rb hcc hi i' p c hp hc hrb
    rcases key _ _ _ _ _ _ hcc with k | ⟨_, k⟩
    · rcases getElem?_snoc hp with ⟨g1, hi1⟩ | ⟨_, rfl⟩
      · rcases getElem?_snoc hc with ⟨g2, _⟩ | ⟨hi2, _⟩
        · exact h.hid.s2 _ _ _ _ _ _ k hi i' p c g1 g2 hrb
        · omega
      · have := hq rb hrb
        have := h.hid.lt _ _ _ _ _ _ _ k hi
        omega
    · exact k rb hi
  · intro i r j xs v rb hcc hi i' r' j' own xs' v' hcc' hi'
    rcases key _ _ _ _ _ _ hcc with k | ⟨_, k⟩
    · rcases key _ _ _ _ _ _ hcc' with k' | ⟨_, k'⟩
      · exact h.hid.s3 _ _ _ _ _ _ k hi _ _ _ _ _ _ k' hi'
      · exact absurd hi' (k' rb)
    · exact absurd hi (k rb)
  · rintro rb ⟨i, r, j, xs, v, hc, hi⟩
    rcases key _ _ _ _ _ _ hc with k | ⟨_, k⟩
    · exact ⟨i, r, j, xs, v, k, hi⟩
    · exact absurd hi (k rb)

theorem innOk_nil {w : World} {own : Bool} : InnOk w own (.slice none 0 0) [] :=
  ⟨⟨none, 0, 1, 0⟩, ⟨rfl, fun r hr => by simp [Cont.rows] at hr, fun r j hr => by simp [Cont.rows] at hr, fun _ rb hrb => (by cases hrb), fun r k hk => (by cases hk)⟩, .slice0 (fun h => absurd h (by decide)), fun rb hrb => by cases hrb⟩

theorem inner_nil {rb : Nat} : ¬ Inner (.slice none 0 0) rb := by
  rintro ⟨off, l, c, h⟩; cases h

theorem hc0_eq {v : Value} {h : HC} (e : hc0 v = some h) : (v = .slice none 0 0 ∧ h = .r []) ∨ ∃ s, h = .c s ∧ v = s.v := by
  unfold hc0 at e
  split at e
  · simp only [Option.some.injEq] at e; exact .inl ⟨rfl, e.symm⟩
  · simp only [Option.map_eq_some_iff] at e
    obtain ⟨s, hs, rfl⟩ := e
    refine .inr ⟨s, rfl, ?_⟩
    have := scsOf_eq (us := [v]) (ss := [s]) (by simp [scsOf, hs])
    simpa using this

theorem hcs0_get : ∀ {l : List Value} {hs : List HC}, hcs0 l = some hs → hs.length = l.length ∧ ∀ (j : Nat) (h : HC), hs[j]? = some h → ∃ v, l[j]? = some v ∧ hc0 v = some h
  | [], hs, e => by simp only [hcs0, Option.some.injEq] at e; subst e; exact ⟨rfl, fun j h hj => by simp at hj⟩
  | v :: l, hs, e => by
    simp only [hcs0] at e
    split at e
    · rename_i h r h1 h2
      simp only [Option.some.injEq] at e; subst e
      obtain ⟨g1, g2⟩ := hcs0_get h2
      refine ⟨by simp [g1], fun j x hj => ?_⟩
      cases j with
      | zero => simp at hj; subst hj; exact ⟨v, rfl, h1⟩
      | succ j => simpa using g2 j x (by simpa using hj)
    · cases e

section
variable {P : Program} {ι : List Place} {w : World}

theorem evMakeN_sound {H H' : Heap} (hrh : RH ι H w) {t : TypeId} {l c l' c' v : Value} {n : Nat} {vc : List Prop} (h : evMakeN P H t l c n = some (v, H', vc)) (hv : AllP vc) (hl : VR ι l l') (hc : VR ι c c') :
    Runs P (Instr.makeSlice t l' c') ι H w v H' := by
  unfold evMakeN at h
  split at h
  · rename_i el kl a kc b hu
    cases hl; cases hc
    split at h
    · rename_i i hi
      split at h
      · rename_i z hz
        split at h
        · rename_i ct hct
          cases hcnd : Nat.beq i.size (cellsV z).length && Nat.blt 0 i.size with
          | false => simp [hcnd] at h
          | true =>
            simp only [hcnd, cond_true, Option.some.injEq, Prod.mk.injEq] at h
            obtain ⟨rfl, rfl, rfl⟩ := h
            simp only [Bool.and_eq_true] at hcnd
            have hsz := Nat.eq_of_beq_eq_true hcnd.1
            have hpos : 0 < i.size := Nat.le_of_ble_eq_true hcnd.2
            obtain ⟨ha, hab, hby, hb1, _⟩ := hv
            subst ha
            unfold zerosN at hct
            cases hpl : (allP plain1 (cellsV z) && allP one1 (cellsV z)) with
            | false => simp [hpl] at hct
            | true =>
            simp only [hpl, cond_true, Option.map_eq_some_iff] at hct
            obtain ⟨hs, hhs, rfl⟩ := hct
            simp only [Bool.and_eq_true] at hpl
            obtain ⟨z4, z5⟩ := hpl
            obtain ⟨zl, zg⟩ := hcs0_get hhs
            have hm := run_make (P := P) w t el i z hu hi hz kl kc (n : Int) b (by omega) hab (by rw [Int.mul_comm]; omega) (by omega)
            obtain ⟨m, rfl⟩ := Int.eq_ofNat_of_zero_le (show 0 ≤ b by omega)
            simp only [Int.toNat_natCast] at hm hab
            have hnm : n ≤ m := by omega
            have hcells : ∀ j, j < m * i.size → (madeCells z.cells (m * i.size))[j]? = (cellsV z)[j % i.size]? := by
              intro j hj
              have h1 : z.cells.size = i.size := by rw [hsz, cellsV_eq]; simp
              have h2 : j % i.size < i.size := Nat.mod_lt _ hpos
              simp [madeCells, hj, h1, cellsV_eq]
              rw [getElem!_pos z.cells (j % i.size) (by omega)]
              exact (Array.getElem?_eq_getElem (by omega)).symm
            have hw : ∀ rb : Nat, rb < w.heap.size → (w.alloc (.cells (madeCells z.cells (m * i.size)) el)).heap[rb]? = w.heap[rb]? := fun rb hr => heap_alloc_lt w _ rb hr
            obtain ⟨k1, k2⟩ := hid_snocN (q := ⟨some w.heap.size, 0, hs.length, m⟩) (b := some ⟨true, .nst n hs.length (fun _ => hs) []⟩) (w' := w.alloc (.cells (madeCells z.cells (m * i.size)) el)) hrh hw (by simp) (fun rb hrb => by simp at hrb; omega) (by
              rintro r j own xs v ⟨p, c, n', sz, g, o, rb, cs, e, f, h1, h2, h3, h4, h5, h6, h7, h8, h9⟩
              have hil := hrh.len
              rw [List.getElem?_append_right (by omega)] at h1
              simp at h2
              subst h2
              simp only [Cont.nst.injEq] at h4
              obtain ⟨rfl, rfl, rfl, rfl⟩ := h4
              simp only [hil, Nat.sub_self, List.getElem?_cons_zero, Option.some.injEq] at h1
              subst h1
              simp only [Option.some.injEq] at h7
              subst h7
              rw [heap_alloc_new] at h8
              simp only [Option.some.injEq, Obj.cells.injEq] at h8
              obtain ⟨rfl, _⟩ := h8
              have hj : j < hs.length := some_lt h6
              have hjs : j < i.size := by omega
              have hlt : r * i.size + j < m * i.size := by
                have := Nat.mul_le_mul_right i.size (show r + 1 ≤ m by omega)
                rw [Nat.add_mul] at this; omega
              have hmod : (r * i.size + j) % i.size = j := by rw [Nat.mul_comm, Nat.mul_add_mod, Nat.mod_eq_of_lt hjs]
              have hls : hs.length = i.size := by omega
              simp only [Nat.zero_add, hls] at h9
              rw [hcells _ hlt, hmod] at h9
              obtain ⟨u, u1, u2⟩ := zg j _ h6
              rw [h9] at u1
              simp only [Option.some.injEq] at u1
              subst u1
              rcases hc0_eq u2 with ⟨rfl, e2⟩ | ⟨s, e2, _⟩
              · cases e2
                exact ⟨innOk_nil, fun rb => inner_nil⟩
              · cases e2)
            have hext := Ext.allocG hrh (.nst n hs.length (fun _ => hs) []) (madeCells z.cells (m * i.size)) el m (by simpa [Cont.rows] using hnm) (by rw [size_madeCells]; simp only [Cont.sz]; congr 1; omega) (fun r hr => by simp [Cont.row, Cont.sz])
              (fun j u hu => by
                have hj : j < m * i.size := by
                  rcases Nat.lt_or_ge j (m * i.size) with h' | h'
                  · exact h'
                  · rw [Array.getElem?_eq_none (by rw [size_madeCells]; exact h')] at hu; cases hu
                rw [hcells j hj] at hu
                exact (vrs_plain1 (ι := ι) z4).ones z5 u (List.mem_of_getElem? hu))
              (fun r j hr hj => by
                simp only [Cont.rows] at hr
                simp only [Cont.sz] at hj ⊢
                have hls : hs.length = i.size := by omega
                rw [hls] at hj ⊢
                have hlt : r * i.size + j < m * i.size := by
                  have := Nat.mul_le_mul_right i.size (show r + 1 ≤ m by omega)
                  rw [Nat.add_mul] at this; omega
                have hmod : (r * i.size + j) % i.size = j := by rw [Nat.mul_comm, Nat.mul_add_mod, Nat.mod_eq_of_lt hj]
                obtain ⟨u, u1, u2⟩ := zg j _ (List.getElem?_eq_getElem (show j < hs.length by omega))
                refine ⟨u, (hs[j]'(by omega)).v, by rw [hcells _ hlt, hmod]; exact u1, by simp [Cont.row, show j < hs.length by omega], ?_⟩
                rcases hc0_eq u2 with ⟨rfl, e2⟩ | ⟨s, e2, rfl⟩
                · rw [e2]; exact .hid _ _ _
                · rw [e2]
                  obtain ⟨u', hu', hvr⟩ := (vrs_plain1 (ι := ι) z4).get j _ u1
                  rw [u1] at hu'; cases hu'
                  exact hvr) rfl k1 fun rb hr => .inl (.inr (k2 rb hr))
            refine ⟨_, _, _, hm, ?_, hext⟩
            have := VR.slice (ι := ι ++ [⟨some w.heap.size, 0, hs.length, m⟩]) (b := H.length) (i := 0) (l := n) (c := 1) (c' := m) (getElem?_new _ _ _ hrh.len) rfl hnm (by simp) (by omega)
            simpa [Cont.sz] using this
        · cases h
      · cases h
    · cases h
  · cases h


/-! ### A row is written -/

theorem blkOk_floats {ι ι2 : List Place} {w : World} {p : Place} {o : Bool} {k : FloatKind} {xs : List Nat} (h : BlkOk ι w p ⟨o, .fl k xs⟩) : BlkOk ι2 w p ⟨o, .fl k xs⟩ := by
  refine ⟨h.sz, h.len, fun r j hr hj => ?_, h.own, fun r k hk => by cases hk⟩
  obtain ⟨rb, cs, e, f, v, u, h1, h2, h3, h4, h5, h6⟩ := h.cells r j hr hj
  refine ⟨rb, cs, e, f, v, u, h1, h2, h3, h4, h5.free ?_, h6⟩
  cases j with
  | zero => simp [Cont.row] at h4; subst h4; exact .inr (.inr (.inl ⟨_, _, rfl⟩))
  | succ j => simp [Cont.row] at h4

/-- The slice of an own block of floats: what it is as a hidden one. -/
theorem innOk_of {ι : List Place} {H : Heap} {w : World} (hrh : RH ι H w) {k c : Nat} {xs : List Nat} {v : Value} (hk : H[k]? = some (some ⟨true, .fl .f32 xs⟩)) (hv : VR ι (.slice (some ⟨k, 0, none⟩) xs.length c) v) :
    InnOk w true v xs ∧ ∀ rb, Inner v rb → ∃ pk, ι[k]? = some pk ∧ pk.blk = some rb := by
  have none_ok : ∀ (x : Option Addr) (ys : List Nat), ys = [] → InnOk w true (.slice x 0 0) ys := fun x ys hy => by
    subst hy
    exact ⟨⟨none, 0, 1, 0⟩, ⟨rfl, fun r hr => by simp [Cont.rows] at hr, fun r j hr => by simp [Cont.rows] at hr, fun _ rb hrb => (by cases hrb), fun r k hk => (by cases hk)⟩, .slice0 (fun h => absurd h (by decide)), fun rb hrb => by cases hrb⟩
  generalize hl : xs.length = l at hv
  cases hv with
  | slice hp hb hle hc h0 =>
    rename_i c' p rb
    have hbk := hrh.blk k p _ hp hk
    obtain ⟨hbase, _⟩ := hbk.own rfl rb hb
    by_cases hc0 : c' = 0
    · subst hc0
      have : l = 0 := by omega
      subst this
      refine ⟨?_, ?_⟩
      · have hx := List.eq_nil_of_length_eq_zero hl
        subst hx
        exact ⟨⟨none, 0, 1, 0⟩, ⟨rfl, fun r hr => by simp [Cont.rows] at hr, fun r j hr => by simp [Cont.rows] at hr, fun _ rb hrb => (by cases hrb), fun r k hk => (by cases hk)⟩, .slice0 (fun h => absurd h (by decide)), fun rb hrb => by cases hrb⟩
      · rintro rb' ⟨off, l', c2, h⟩; cases h
    · obtain ⟨d, rfl⟩ : ∃ d, c' = d + 1 := ⟨c' - 1, by omega⟩
      refine ⟨⟨p, blkOk_floats hbk, ?_, fun rb' hrb' => ?_⟩, ?_⟩
      · have := VR.slice (ι := [p]) (b := 0) (i := 0) (l := l) (c := 1) (c' := d + 1) rfl hb hle hc (by intro h; cases h)
        rw [hl]; exact this
      · rw [hb] at hrb'; cases hrb'
        exact ⟨_, _, _, rfl⟩
      · rintro rb' ⟨off, l', c2, h⟩
        simp only [Value.slice.injEq, Option.some.injEq, Addr.mk.injEq] at h
        exact ⟨p, hp, by rw [hb, h.1.1]⟩
  | slice0 hx =>
    refine ⟨none_ok _ _ (List.eq_nil_of_length_eq_zero hl), ?_⟩
    rintro rb' ⟨off, l', c2, h⟩; cases h

theorem hideL_spec {H : Heap} : ∀ {us : List Value} {hs : List HC} {k : Option Nat} {vc : List Prop}, hideL H us = some (hs, k, vc) → AllP vc →
    hs.length = us.length ∧
    (∀ (j : Nat) (h : HC), hs[j]? = some h → (∃ s, h = .c s ∧ us[j]? = some s.v) ∨ (h = .r [] ∧ us[j]? = some (.slice none 0 0)) ∨
      ∃ k0 xs c, h = .r xs ∧ us[j]? = some (.slice (some ⟨k0, 0, none⟩) xs.length c) ∧ k = some k0 ∧ H[k0]? = some (some ⟨true, .fl .f32 xs⟩)) ∧
    (∀ (j j' : Nat) (a a' : Addr) (l c l' c' : Nat), us[j]? = some (.slice (some a) l c) → us[j']? = some (.slice (some a') l' c') → j = j') ∧
    (k = none → ∀ (j : Nat) (a : Addr) (l c : Nat), us[j]? ≠ some (.slice (some a) l c))
  | [], hs, k, vc, h, hv => by
    simp only [hideL, Option.some.injEq, Prod.mk.injEq] at h
    obtain ⟨rfl, rfl, rfl⟩ := h
    exact ⟨rfl, fun j h hj => by simp at hj, fun j j' a a' l c l' c' hj => by simp at hj, fun _ j a l c hj => by simp at hj⟩
  | u :: us, hs, k, vc, h, hv => by
    unfold hideL at h
    split at h
    · cases ‹u :: us = []›
    · rename_i k0 l c r heq
      cases heq
      split at h
      · rename_i xs hs' vc' hb hr
        simp only [Option.some.injEq, Prod.mk.injEq] at h
        obtain ⟨rfl, rfl, rfl⟩ := h
        obtain ⟨rfl, hv⟩ := hv
        obtain ⟨g1, g2, g3, g4⟩ := hideL_spec hr hv
        rw [blkAt_eq] at hb
        refine ⟨by simp [g1], fun j h hj => ?_, fun j j' a a' l c l' c' hj hj' => ?_, fun hn => by cases hn⟩
        · cases j with
          | zero => simp at hj; subst hj; exact .inr (.inr ⟨k0, xs, c, rfl, rfl, rfl, hb⟩)
          | succ j =>
            rcases g2 j h (by simpa using hj) with q | q | ⟨_, _, _, _, _, q, _⟩
            · exact .inl (by simpa using q)
            · exact .inr (.inl (by simpa using q))
            · cases q
        · cases j with
          | zero => cases j' with
            | zero => rfl
            | succ j' => exact absurd (by simpa using hj') (g4 rfl j' a' l' c')
          | succ j => exact absurd (by simpa using hj) (g4 rfl j a l c)
      · cases h
    · rename_i r heq
      cases heq
      split at h
      · rename_i hs' k' vc' hr
        simp only [Option.some.injEq, Prod.mk.injEq] at h
        obtain ⟨rfl, rfl, rfl⟩ := h
        obtain ⟨g1, g2, g3, g4⟩ := hideL_spec hr hv
        refine ⟨by simp [g1], fun j h hj => ?_, fun j j' a a' l c l' c' hj hj' => ?_, fun hn j a l c hj => ?_⟩
        · cases j with
          | zero => simp at hj; subst hj; exact .inr (.inl ⟨rfl, rfl⟩)
          | succ j => simpa using g2 j h (by simpa using hj)
        · cases j with
          | zero => simp at hj
          | succ j => cases j' with
            | zero => simp at hj'
            | succ j' => rw [g3 j j' a a' l c l' c' (by simpa using hj) (by simpa using hj')]
        · cases j with
          | zero => simp at hj
          | succ j => exact g4 hn j a l c (by simpa using hj)
      · cases h
    · rename_i v r n1 n2 heq
      cases heq
      split at h
      · rename_i s hs' k' vc' hsc hr
        simp only [Option.some.injEq, Prod.mk.injEq] at h
        obtain ⟨rfl, rfl, rfl⟩ := h
        obtain ⟨g1, g2, g3, g4⟩ := hideL_spec hr hv
        have hus : u = s.v := by
          have := scsOf_eq (us := [u]) (ss := [s]) (by simp [scsOf, hsc])
          simpa using this
        have hns : ∀ (a : Addr) (l c : Nat), u ≠ .slice (some a) l c := fun a l c e => by
          rw [hus] at e; cases s <;> cases e
        refine ⟨by simp [g1], fun j h hj => ?_, fun j j' a a' l c l' c' hj hj' => ?_, fun hn j a l c hj => ?_⟩
        · cases j with
          | zero => simp at hj; subst hj; exact .inl ⟨s, rfl, by simp [hus]⟩
          | succ j => simpa using g2 j h (by simpa using hj)
        · cases j with
          | zero => simp at hj; exact absurd hj (hns _ _ _)
          | succ j => cases j' with
            | zero => simp at hj'; exact absurd hj' (hns _ _ _)
            | succ j' => rw [g3 j j' a a' l c l' c' (by simpa using hj) (by simpa using hj')]
        · cases j with
          | zero => simp at hj; exact absurd hj (hns _ _ _)
          | succ j => exact g4 hn j a l c (by simpa using hj)
      · cases h

theorem killO_len (H : Heap) (k : Option Nat) : (killO H k).length = H.length := by
  cases k with
  | none => rfl
  | some k => simp [killO, setAt_eq]

theorem killO_get {H : Heap} {k : Option Nat} {i : Nat} {c : Blk} (h : (killO H k)[i]? = some (some c)) : H[i]? = some (some c) ∧ k ≠ some i := by
  cases k with
  | none => exact ⟨h, by simp⟩
  | some k =>
    simp only [killO, setAt_eq, List.getElem?_set] at h
    split at h
    · split at h <;> cases h
    · rename_i hne; exact ⟨h, by simpa using hne⟩

theorem killO_other {H : Heap} {k : Option Nat} {b : Nat} (h : neO b k = true) : (killO H k)[b]? = H[b]? := by
  cases k with
  | none => rfl
  | some k =>
    simp only [neO, Bool.not_eq_true'] at h
    have hne : k ≠ b := fun e => by subst e; simp at h
    simp only [killO, setAt_eq, List.getElem?_set, if_neg hne]

theorem RH.killO {H : Heap} (h : RH ι H w) (k : Option Nat) : RH ι (killO H k) w := by
  cases k with
  | none => exact h
  | some k => simp only [Sim.killO, setAt_eq]; exact (Ext.kill h k).rh

theorem evStoreN_sound {H H' : Heap} {t : TypeId} {x v x' v' : Value} {vc : List Prop} (h : evStoreN P H t x v = some (H', vc)) (hv : AllP vc) (hx : VR ι x x') (hvv : VR ι v v') (hrh : RH ι H w) :
    ∃ w', (Instr.storeAt t x' v').run P w = .ok () w' ∧ Ext ι H w ι H' w' := by
  unfold evStoreN at h
  split at h
  · rename_i b r
    cases hx with | ptr hp hb =>
    rename_i p rb
    split at h
    · rename_i n sz g o hblk
      rw [blkAt_eq] at hblk
      cases hcnd : (allP one1 (cellsV v) && Nat.beq (cellsV v).length (P.cellsOf t) && (P.info? t).isSome && Nat.beq (cellsV v).length sz) with
      | false => simp [hcnd] at h
      | true =>
        simp only [hcnd, cond_true] at h
        simp only [Bool.and_eq_true] at hcnd
        obtain ⟨⟨⟨hone, hn⟩, hinfo⟩, hnsz⟩ := hcnd
        have hn := Nat.eq_of_beq_eq_true hn
        have hnsz := Nat.eq_of_beq_eq_true hnsz
        split at h
        · rename_i hs k vc1 hhide
          cases hne : neO b k with
          | false => simp [hne] at h
          | true =>
          simp only [hne, cond_true, Option.some.injEq, Prod.mk.injEq] at h
          obtain ⟨rfl, rfl⟩ := h
          obtain ⟨hr, hv⟩ := hv
          obtain ⟨L1, L2, L3, L4⟩ := hideL_spec hhide hv
          have hbk := hrh.blk b p _ hp hblk
          obtain ⟨hbase, hcap, cs, e, hcs, hcsz, hcone⟩ := hbk.own rfl rb hb
          simp only [Cont.rows] at hcap
          have hcells := hvv.cells
          have hlen := hcells.length
          have hreal := hcells.ones hone
          have hsz : p.sz = sz := hbk.sz
          have hfit : r * p.sz + v'.cells.toList.length ≤ cs.size := by
            rw [← hlen, hcsz]
            have h1 := Nat.mul_le_mul_right p.sz (show r + 1 ≤ p.cap by omega)
            rw [Nat.add_mul] at h1
            omega
          have hst := run_storeCells_at P rb (r * p.sz) e v'.cells.toList 0 cs w hcs (by simpa using hfit) hreal
          simp only [Nat.add_zero] at hst
          generalize hcs' : (splice cs.toList (r * p.sz) v'.cells.toList).toArray = cs'
          have hget : ∀ i : Nat, cs'[i]? = if r * p.sz ≤ i ∧ i < r * p.sz + v'.cells.toList.length then v'.cells.toList[i - r * p.sz]? else cs[i]? := by
            intro i
            rw [← hcs', List.getElem?_toArray, getElem?_splice _ _ _ (by simpa using hfit)]
            split
            · rfl
            · simp
          have hsize : cs'.size = cs.size := by
            rw [← hcs']
            simp only [List.size_toArray]
            rw [length_splice _ _ _ (by simpa using hfit)]
            simp
          have hcone' : ∀ (j : Nat) (u : Value), cs'[j]? = some u → u.oneCell' = true := by
            intro i u hu
            rw [hget i] at hu
            split at hu
            · exact hreal u (List.mem_of_getElem? hu)
            · exact hcone i u hu
          have hkb : (killO H k)[b]? = some (some ⟨true, .nst n sz g o⟩) := by rw [killO_other hne]; exact hblk
          have hlr : ∀ r', r' < n → (g r').length = sz := fun r' hr' => by simpa [Cont.row, Cont.sz] using hbk.len r' hr'
          -- the cells, behind it
          have cellat : ∀ (r' j' : Nat), r' < n → j' < sz → (r' = r ∧ cs'[r' * p.sz + j']? = v'.cells.toList[j']?) ∨ (r' ≠ r ∧ cs'[r' * p.sz + j']? = cs[r' * p.sz + j']?) := by
            intro r' j' hr' hj'
            have hw := idx_window (sz := p.sz) (r := r) (r' := r') (j := 0) (j' := j') (n := v'.cells.toList.length) (by omega) (by omega)
            simp only [Nat.add_zero, Nat.zero_le, Nat.zero_add, true_and] at hw
            rw [hget]
            by_cases hrr : r' = r
            · subst hrr
              rw [if_pos ⟨by omega, by omega⟩]
              exact .inl ⟨rfl, by congr 1; omega⟩
            · rw [if_neg (fun hh => hrr (hw.1 hh).1)]
              exact .inr ⟨hrr, rfl⟩
          have hsetother : ∀ rb', rb' ≠ rb → (w.setRow rb cs').heap[rb']? = w.heap[rb']? := fun rb' hne' => setRow_other w rb rb' cs' hne'
          -- a written slice
          have new : ∀ (j : Nat) (xs : List Nat) (v2 : Value), hs[j]? = some (HC.r xs) → v'.cells.toList[j]? = some v2 → InnOk (w.setRow rb cs') true v2 xs ∧ ∀ rb', Inner v2 rb' → ∃ k0 pk, k = some k0 ∧ ι[k0]? = some pk ∧ H[k0]? = some (some ⟨true, .fl .f32 xs⟩) ∧ pk.blk = some rb' ∧
              ∃ a l c, (cellsV v)[j]? = some (.slice (some a) l c) := by
            intro j xs v2 hj hv2
            rcases L2 j _ hj with ⟨s, q, _⟩ | ⟨q, q2⟩ | ⟨k0, xs0, c, q, q2, q3, q4⟩
            · cases q
            · cases q
              obtain ⟨u', hu', hvr⟩ := hcells.get j _ q2
              rw [hv2] at hu'; cases hu'
              cases hvr
              exact ⟨innOk_nil, fun rb' hi => absurd hi inner_nil⟩
            · cases q
              obtain ⟨u', hu', hvr⟩ := hcells.get j _ q2
              rw [hv2] at hu'; cases hu'
              obtain ⟨m1, m2⟩ := innOk_of hrh q4 hvr
              have hkne : k0 ≠ b := fun e' => by
                subst e'
                rw [q3] at hne
                simp [neO] at hne
              have m3 : ∀ rb', Inner v2 rb' → rb' ≠ rb := fun rb' hi e' => by
                subst e'
                obtain ⟨pk, y1, y2⟩ := m2 rb' hi
                exact hrh.sep k0 b pk p _ _ rb' y1 q4 rfl hp hblk hkne y2 hb
              refine ⟨m1.of_heap id fun rb' hi _ => hsetother rb' (m3 rb' hi), fun rb' hi => ?_⟩
              obtain ⟨pk, y1, y2⟩ := m2 rb' hi
              exact ⟨k0, pk, q3, y1, q4, y2, _, _, _, q2⟩
          -- hidden slices behind it
          have cls : ∀ (i r' j : Nat) (own : Bool) (xs : List Nat) (v2 : Value), HidCell ι ((killO H k).set b (some ⟨true, .nst n sz (fun i => bif Nat.beq i r then hs else g i) []⟩)) (w.setRow rb cs') i r' j own xs v2 →
              (HidCell ι H w i r' j own xs v2 ∧ ¬ (i = b ∧ r' = r)) ∨ (i = b ∧ r' = r ∧ own = true ∧ hs[j]? = some (.r xs) ∧ v'.cells.toList[j]? = some v2) := by
            rintro i r' j own xs v2 ⟨q, c, n', sz', g', o', rb', cs2, e2, f2, h1, h2, h3, h4, h5, h6, h7, h8, h9⟩
            rw [List.getElem?_set] at h2
            split at h2
            · rename_i hi
              subst hi
              have hbl : b < (killO H k).length := some_lt hkb
              rw [if_pos hbl] at h2
              simp only [Option.some.injEq] at h2
              subst h2
              simp only [Cont.nst.injEq] at h4
              obtain ⟨rfl, rfl, rfl, rfl⟩ := h4
              rw [hp] at h1; cases h1
              rw [hb] at h7; cases h7
              rw [setRow_heap w rb cs cs' e (0, 0) hcs] at h8
              simp only [Option.some.injEq, Obj.cells.injEq] at h8
              obtain ⟨rfl, rfl, rfl⟩ := h8
              rw [hbase, Nat.zero_add] at h9
              cases hrr : Nat.beq r' r with
              | true =>
                have := Nat.eq_of_beq_eq_true hrr
                subst this
                simp only [hrr, cond_true] at h6
                have hjs : j < sz := by have := some_lt h6; omega
                rcases cellat r' j h5 hjs with ⟨_, q1⟩ | ⟨q1, _⟩
                · rw [q1] at h9
                  exact .inr ⟨rfl, rfl, h3.symm, h6, h9⟩
                · exact absurd rfl q1
              | false =>
                have hrr' : r' ≠ r := fun e' => by subst e'; simp at hrr
                simp only [hrr, cond_false] at h6
                have hjs : j < sz := by have := some_lt h6; rw [hlr r' h5] at this; exact this
                rcases cellat r' j h5 hjs with ⟨q1, _⟩ | ⟨_, q1⟩
                · exact absurd q1 hrr'
                · rw [q1] at h9
                  exact .inl ⟨⟨p, _, n, sz, g, o, rb, cs, e, (0, 0), hp, hblk, h3, rfl, h5, h6, hb, hcs, by rw [hbase, Nat.zero_add]; exact h9⟩, fun hh => hrr' hh.2⟩
            · rename_i hi
              obtain ⟨h2, _⟩ := killO_get h2
              have hne2 : rb' ≠ rb := fun e' => by subst e'; exact hrh.sep b i p q _ c _ hp hblk rfl h1 h2 hi hb h7
              rw [hsetother rb' hne2] at h8
              exact .inl ⟨⟨q, c, n', sz', g', o', rb', cs2, e2, f2, h1, h2, h3, h4, h5, h6, h7, h8, h9⟩, fun hh => hi hh.1.symm⟩
          have blkold : ∀ (i : Nat) (c : Blk), ((killO H k).set b (some ⟨true, .nst n sz (fun i => bif Nat.beq i r then hs else g i) []⟩))[i]? = some (some c) → ∃ c0, H[i]? = some (some c0) ∧ c0.own = c.own ∧ k ≠ some i := by
            intro i c h2
            rw [List.getElem?_set] at h2
            split at h2
            · rename_i hi; subst hi
              split at h2
              · simp only [Option.some.injEq] at h2; subst h2
                exact ⟨_, hblk, rfl, fun e' => by rw [e'] at hne; simp [neO] at hne⟩
              · cases h2
            · obtain ⟨h2, h3⟩ := killO_get h2
              exact ⟨c, h2, rfl, h3⟩
          have hhid : HidOk ι ((killO H k).set b (some ⟨true, .nst n sz (fun i => bif Nat.beq i r then hs else g i) []⟩)) (w.setRow rb cs') := by
            refine ⟨?_, ?_, ?_, ?_, ?_⟩
            · intro i r' j own xs v2 hc
              rcases cls _ _ _ _ _ _ hc with ⟨c1, _⟩ | ⟨_, _, rfl, c4, c5⟩
              · exact (hrh.hid.ok _ _ _ _ _ _ c1).of_heap id fun rb' hi _ => hsetother rb' fun e' => by
                  subst e'; exact hrh.hid.s1 b p _ _ hp hblk rfl hb _ _ _ _ _ _ c1 hi
              · exact (new _ _ _ c4 c5).1
            · intro i r' j own xs v2 rb' hc hi
              simp only [setRow_size]
              rcases cls _ _ _ _ _ _ hc with ⟨c1, _⟩ | ⟨_, _, rfl, c4, c5⟩
              · exact hrh.hid.lt _ _ _ _ _ _ _ c1 hi
              · obtain ⟨k0, pk, y1, y2, y3, y4, _⟩ := (new _ _ _ c4 c5).2 rb' hi
                exact hrh.lt k0 pk _ rb' y2 y3 y4
            · intro i q c rb' hq hcq hoq hrb' i' r' j own xs v2 hc hi
              obtain ⟨c0, hc0, ho0, hk0⟩ := blkold i c hcq
              rcases cls _ _ _ _ _ _ hc with ⟨c1, _⟩ | ⟨_, _, rfl, c4, c5⟩
              · exact hrh.hid.s1 i q c0 rb' hq hc0 (by rw [ho0]; exact hoq) hrb' _ _ _ _ _ _ c1 hi
              · obtain ⟨k0, pk, y1, y2, y3, y4, _⟩ := (new _ _ _ c4 c5).2 rb' hi
                exact hrh.sep k0 i pk q _ c0 rb' y2 y3 rfl hq hc0 (fun e' => hk0 (by rw [y1, e'])) y4 hrb'
            · intro i r' j xs v2 rb' hc hi i' q c hq hcq hrb'
              obtain ⟨c0, hc0, ho0, hk0⟩ := blkold i' c hcq
              rcases cls _ _ _ _ _ _ hc with ⟨c1, _⟩ | ⟨_, _, _, c4, c5⟩
              · exact hrh.hid.s2 _ _ _ _ _ _ c1 hi i' q c0 hq hc0 hrb'
              · obtain ⟨k0, pk, y1, y2, y3, y4, _⟩ := (new _ _ _ c4 c5).2 rb' hi
                exact hrh.sep k0 i' pk q _ c0 rb' y2 y3 rfl hq hc0 (fun e' => hk0 (by rw [y1, e'])) y4 hrb'
            · intro i r' j xs v2 rb' hc hi i' r'' j' own' xs' v3 hc' hi'
              rcases cls _ _ _ _ _ _ hc with ⟨c1, c2⟩ | ⟨rfl, rfl, _, c4, c5⟩
              · rcases cls _ _ _ _ _ _ hc' with ⟨d1, d2⟩ | ⟨rfl, rfl, _, d4, d5⟩
                · exact hrh.hid.s3 _ _ _ _ _ _ c1 hi _ _ _ _ _ _ d1 hi'
                · obtain ⟨k0, pk, y1, y2, y3, y4, _⟩ := (new _ _ _ d4 d5).2 rb' hi'
                  exact absurd hi (hrh.hid.s1 k0 pk _ rb' y2 y3 rfl y4 _ _ _ _ _ _ c1)
              · obtain ⟨k0, pk, y1, y2, y3, y4, a, l, c, y5⟩ := (new _ _ _ c4 c5).2 rb' hi
                rcases cls _ _ _ _ _ _ hc' with ⟨d1, d2⟩ | ⟨rfl, rfl, _, d4, d5⟩
                · exact absurd hi' (hrh.hid.s1 k0 pk _ rb' y2 y3 rfl y4 _ _ _ _ _ _ d1)
                · obtain ⟨_, _, _, _, _, _, a', l', c', z5⟩ := (new _ _ _ d4 d5).2 rb' hi'
                  exact ⟨rfl, rfl, (L3 _ _ _ _ _ _ _ _ y5 z5).symm⟩
          have hrh2 := RH.putG (hrh.killO k) (c' := .nst n sz (fun i => bif Nat.beq i r then hs else g i) []) hp hkb rfl hb hcs hsize hcone' rfl rfl
            (fun r' hr' => by
              simp only [Cont.row, List.length_map, Cont.sz]
              cases hrr : Nat.beq r' r with
              | true => simp only [cond_true]; omega
              | false => simp only [cond_false]; exact hlr r' hr')
            (fun r' j' hr' hj' => by
              simp only [Cont.rows] at hr'
              simp only [Cont.sz] at hj'
              simp only [Cont.row]
              rcases cellat r' j' hr' hj' with ⟨rfl, q1⟩ | ⟨hrr, q1⟩
              · have hb1 : Nat.beq r' r' = true := by simp
                have hj2 : j' < hs.length := by omega
                have hj3 : j' < (cellsV v).length := by omega
                rw [q1]
                obtain ⟨u', hu', hvr⟩ := hcells.get j' _ (List.getElem?_eq_getElem hj3)
                refine ⟨u', (hs[j']).v, hu', by simp [hj2], ?_⟩
                rcases L2 j' _ (List.getElem?_eq_getElem hj2) with ⟨s, e1, e2⟩ | ⟨e1, e2⟩ | ⟨k0, xs, c, e1, e2, _⟩
                · rw [List.getElem?_eq_getElem hj3, Option.some.injEq] at e2
                  rw [e1]; rw [e2] at hvr; exact hvr
                · rw [List.getElem?_eq_getElem hj3, Option.some.injEq] at e2
                  rw [e1]; rw [e2] at hvr; cases hvr; exact .hid _ _ _
                · rw [List.getElem?_eq_getElem hj3, Option.some.injEq] at e2
                  rw [e1]; rw [e2] at hvr; generalize xs.length = l at hvr; cases hvr <;> exact .hid _ _ _
              · have hb1 : Nat.beq r' r = false := by cases hbb : Nat.beq r' r with
                  | false => rfl
                  | true => exact absurd (Nat.eq_of_beq_eq_true hbb) hrr
                rw [q1]
                obtain ⟨rb', cs2, e2, f2, v2, u2, q1, q2, q3, q4, q5, _⟩ := hbk.cells r' j' hr' hj'
                rw [hb] at q1; cases q1
                rw [hcs] at q2; cases q2
                rw [hbase] at q3
                exact ⟨v2, u2, by simpa using q3, by simpa [hb1, Cont.row] using q4, q5⟩)
            rfl hhid
          refine ⟨w.setRow rb cs', ?_, ?_⟩
          · have hcl : v'.cells.size = P.cellsOf t := by rw [← hn, hlen]; simp
            simp [Instr.storeAt, Instr.sureAddr, storeVar, run_sizeOf' hinfo w, hcl, hbase]
            rw [← hcs']
            exact hst
          · rw [setAt_eq]
            refine ⟨⟨[], by simp⟩, hrh2, ⟨rfl, rfl, rfl, by simp, fun rb' hr' hn' => hsetother rb' fun e' => ?_⟩, ?_⟩
            · subst e'
              exact hn' (.inl ⟨b, p, _, hp, hblk, rfl, hb⟩)
            · rintro rb' (⟨i, q, c, hq, hcq, hoq, hrb'⟩ | ⟨i, r', j, xs, v2, hc, hi⟩)
              · obtain ⟨c0, hc0, ho0, hk0⟩ := blkold i c hcq
                exact .inl (.inl ⟨i, q, c0, hq, hc0, by rw [ho0]; exact hoq, hrb'⟩)
              · rcases cls _ _ _ _ _ _ hc with ⟨c1, _⟩ | ⟨_, _, _, c4, c5⟩
                · exact .inl (.inr ⟨i, r', j, xs, v2, c1, hi⟩)
                · obtain ⟨k0, pk, y1, y2, y3, y4, _⟩ := (new _ _ _ c4 c5).2 rb' hi
                  exact .inl (.inl ⟨k0, pk, _, y2, y3, rfl, y4⟩)
        · cases h
    · cases h
  · cases h

end
end Go.Sim
