/- A pure account of the values, floats and memory of a run, and how it stands to the model's (part 24: rows that hold slices are made and written). Conditions: none. -/
import Derived.Test.YtgjdkhocnnoimaaS11
namespace Go.Sim
open Go

/-! ### New blocks whose slices are nobody's -/

theorem hid_snocN {ι : List Place} {H : Heap} {w w' : World} {q : Place} {b : Option Blk} (h : RH ι H w) (hw : ∀ rb : Nat, rb < w.heap.size → w'.heap[rb]? = w.heap[rb]?) (hs : w.heap.size ≤ w'.heap.size) (hq : ∀ rb, q.blk = some rb → w.heap.size ≤ rb)
    (hnew : ∀ r j own xs v, HidCell (ι ++ [q]) (H ++ [b]) w' H.length r j own xs v → InnOk w' own v xs ∧ ∀ rb, ¬ Inner v rb) :
    HidOk (ι ++ [q]) (H ++ [b]) w' ∧ ∀ rb, Own2 (ι ++ [q]) (H ++ [b]) w' rb → Own2 ι H w rb := by
  have hlen := h.len
  have key : ∀ i r j own xs v, HidCell (ι ++ [q]) (H ++ [b]) w' i r j own xs v → HidCell ι H w i r j own xs v ∨ (InnOk w' own v xs ∧ ∀ rb, ¬ Inner v rb) := by
    rintro i r j own xs v ⟨p, c, n, sz, g, o, rb, cs, e, f, h1, h2, h3, h4, h5, h6, h7, h8, h9⟩
    rcases getElem?_snoc h2 with ⟨g2, hi⟩ | ⟨hi, g2⟩
    · rcases getElem?_snoc h1 with ⟨g1, _⟩ | ⟨hi', _⟩
      · exact .inl ⟨p, c, n, sz, g, o, rb, cs, e, f, g1, g2, h3, h4, h5, h6, h7, by rw [← hw rb (h.lt i p c rb g1 g2 h7)]; exact h8, h9⟩
      · omega
    · subst hi
      exact .inr (hnew _ _ _ _ _ ⟨p, c, n, sz, g, o, rb, cs, e, f, h1, h2, h3, h4, h5, h6, h7, h8, h9⟩)
  refine ⟨⟨?_, ?_, ?_, ?_, ?_⟩, ?_⟩
  · intro i r j own xs v hc
    rcases key _ _ _ _ _ _ hc with k | ⟨k, _⟩
    · exact (h.hid.ok _ _ _ _ _ _ k).of_heap id fun rb _ => hw rb
    · exact k
  · intro i r j own xs v rb hc hi
    rcases key _ _ _ _ _ _ hc with k | ⟨_, k⟩
    · exact Nat.lt_of_lt_of_le (h.hid.lt _ _ _ _ _ _ _ k hi) hs
    · exact absurd hi (k rb)
  · intro i p c rb hp hc ho hrb i' r j own xs v hcc hi
    rcases key _ _ _ _ _ _ hcc with k | ⟨_, k⟩
    · rcases getElem?_snoc hp with ⟨g1, hi1⟩ | ⟨_, rfl⟩
      · rcases getElem?_snoc hc with ⟨g2, _⟩ | ⟨hi2, _⟩
        · exact h.hid.s1 i p c rb g1 g2 ho hrb _ _ _ _ _ _ k hi
        · omega
      · have := hq rb hrb
        have := h.hid.lt _ _ _ _ _ _ _ k hi
        omega
    · exact k rb hi
  · intro i r j xs v rb hcc hi i' p c hp hc hrb
    rcases key _ _ _ _ _ _ hcc with k | ⟨_, k⟩
    · rcases getElem?_snoc hp with ⟨g1, hi1⟩ | ⟨_, rfl⟩
      · rcases getElem?_snoc hc with ⟨g2, _⟩ | ⟨hi2, _⟩
        · exact h.hid.s2 _ _ _ _ _ _ k hi i' p c g1 g2 hrb
        · omega
      · have := hq rb hrb
        have := h.hid.lt _ _ _ _ _ _ _ k hi
        omega
    · exact k rb hi
  · intro i r j xs v rb hcc hi i' r' j' own xs' v' hcc' hi'
    rcases key _ _ _ _ _ _ hcc with k | ⟨_, k⟩
    · rcases key _ _ _ _ _ _ hcc' with k' | ⟨_, k'⟩
      · exact h.hid.s3 _ _ _ _ _ _ k hi _ _ _ _ _ _ k' hi'
      · exact absurd hi' (k' rb)
    · exact absurd hi (k rb)
  · rintro rb ⟨i, r, j, xs, v, hc, hi⟩
    rcases key _ _ _ _ _ _ hc with k | ⟨_, k⟩
    · exact ⟨i, r, j, xs, v, k, hi⟩
    · exact absurd hi (k rb)

theorem innOk_nil {w : World} {own : Bool} : InnOk w own (.slice none 0 0) [] :=
  ⟨⟨none, 0, 1, 0⟩, ⟨rfl, fun r hr => by simp [Cont.rows] at hr, fun r j hr => by simp [Cont.rows] at hr, fun _ rb hrb => (by cases hrb), fun r k hk => (by cases hk)⟩, .slice0 (fun h => absurd h (by decide)), fun rb hrb => by cases hrb⟩

theorem inner_nil {rb : Nat} : ¬ Inner (.slice none 0 0) rb := by
  rintro ⟨off, l, c, h⟩; cases h

theorem hc0_eq {v : Value} {h : HC} (e : hc0 v = some h) : (v = .slice none 0 0 ∧ h = .r []) ∨ ∃ s, h = .c s ∧ v = s.v := by
  unfold hc0 at e
  split at e
  · simp only [Option.some.injEq] at e; exact .inl ⟨rfl, e.symm⟩
  · simp only [Option.map_eq_some_iff] at e
    obtain ⟨s, hs, rfl⟩ := e
    refine .inr ⟨s, rfl, ?_⟩
    have := scsOf_eq (us := [v]) (ss := [s]) (by simp [scsOf, hs])
    simpa using this

theorem hcs0_get : ∀ {l : List Value} {hs : List HC}, hcs0 l = some hs → hs.length = l.length ∧ ∀ (j : Nat) (h : HC), hs[j]? = some h → ∃ v, l[j]? = some v ∧ hc0 v = some h
  | [], hs, e => by simp only [hcs0, Option.some.injEq] at e; subst e; exact ⟨rfl, fun j h hj => by simp at hj⟩
  | v :: l, hs, e => by
    simp only [hcs0] at e
    split at e
    · rename_i h r h1 h2
      simp only [Option.some.injEq] at e; subst e
      obtain ⟨g1, g2⟩ := hcs0_get h2
      refine ⟨by simp [g1], fun j x hj => ?_⟩
      cases j with
      | zero => simp at hj; subst hj; exact ⟨v, rfl, h1⟩
      | succ j => simpa using g2 j x (by simpa using hj)
    · cases e

section
variable {P : Program} {ι : List Place} {w : World}

theorem evMakeN_sound {H H' : Heap} (hrh : RH ι H w) {t : TypeId} {l c l' c' v : Value} {n : Nat} {vc : List Prop} (h : evMakeN P H t l c n = some (v, H', vc)) (hv : AllP vc) (hl : VR ι l l') (hc : VR ι c c') :
    Runs P (Instr.makeSlice t l' c') ι H w v H' := by
  unfold evMakeN at h
  split at h
  · rename_i el kl a kc b hu
    cases hl; cases hc
    split at h
    · rename_i i hi
      split at h
      · rename_i z hz
        split at h
        · rename_i ct hct
          cases hcnd : Nat.beq i.size (cellsV z).length && Nat.blt 0 i.size with
          | false => simp [hcnd] at h
          | true =>
            simp only [hcnd, cond_true, Option.some.injEq, Prod.mk.injEq] at h
            obtain ⟨rfl, rfl, rfl⟩ := h
            simp only [Bool.and_eq_true] at hcnd
            have hsz := Nat.eq_of_beq_eq_true hcnd.1
            have hpos : 0 < i.size := Nat.le_of_ble_eq_true hcnd.2
            obtain ⟨ha, hab, hby, hb1, _⟩ := hv
            subst ha
            unfold zerosN at hct
            cases hpl : (allP plain1 (cellsV z) && allP one1 (cellsV z)) with
            | false => simp [hpl] at hct
            | true =>
            simp only [hpl, cond_true, Option.map_eq_some_iff] at hct
            obtain ⟨hs, hhs, rfl⟩ := hct
            simp only [Bool.and_eq_true] at hpl
            obtain ⟨z4, z5⟩ := hpl
            obtain ⟨zl, zg⟩ := hcs0_get hhs
            have hm := run_make (P := P) w t el i z hu hi hz kl kc (n : Int) b (by omega) hab (by rw [Int.mul_comm]; omega) (by omega)
            obtain ⟨m, rfl⟩ := Int.eq_ofNat_of_zero_le (show 0 ≤ b by omega)
            simp only [Int.toNat_natCast] at hm hab
            have hnm : n ≤ m := by omega
            have hcells : ∀ j, j < m * i.size → (madeCells z.cells (m * i.size))[j]? = (cellsV z)[j % i.size]? := by
              intro j hj
              have h1 : z.cells.size = i.size := by rw [hsz, cellsV_eq]; simp
              have h2 : j % i.size < i.size := Nat.mod_lt _ hpos
              simp [madeCells, hj, h1, cellsV_eq]
              rw [getElem!_pos z.cells (j % i.size) (by omega)]
              exact (Array.getElem?_eq_getElem (by omega)).symm
            have hw : ∀ rb : Nat, rb < w.heap.size → (w.alloc (.cells (madeCells z.cells (m * i.size)) el)).heap[rb]? = w.heap[rb]? := fun rb hr => heap_alloc_lt w _ rb hr
            obtain ⟨k1, k2⟩ := hid_snocN (q := ⟨some w.heap.size, 0, hs.length, m⟩) (b := some ⟨true, .nst n hs.length (fun _ => hs) []⟩) (w' := w.alloc (.cells (madeCells z.cells (m * i.size)) el)) hrh hw (by simp) (fun rb hrb => by simp at hrb; omega) (by
              rintro r j own xs v ⟨p, c, n', sz, g, o, rb, cs, e, f, h1, h2, h3, h4, h5, h6, h7, h8, h9⟩
              have hil := hrh.len
              rw [List.getElem?_append_right (by omega)] at h1
              simp at h2
              subst h2
              simp only [Cont.nst.injEq] at h4
              obtain ⟨rfl, rfl, rfl, rfl⟩ := h4
              simp only [hil, Nat.sub_self, List.getElem?_cons_zero, Option.some.injEq] at h1
              subst h1
              simp only [Option.some.injEq] at h7
              subst h7
              rw [heap_alloc_new] at h8
              simp only [Option.some.injEq, Obj.cells.injEq] at h8
              obtain ⟨rfl, _⟩ := h8
              have hj : j < hs.length := some_lt h6
              have hjs : j < i.size := by omega
              have hlt : r * i.size + j < m * i.size := by
                have := Nat.mul_le_mul_right i.size (show r + 1 ≤ m by omega)
                rw [Nat.add_mul] at this; omega
              have hmod : (r * i.size + j) % i.size = j := by rw [Nat.mul_comm, Nat.mul_add_mod, Nat.mod_eq_of_lt hjs]
              have hls : hs.length = i.size := by omega
              simp only [Nat.zero_add, hls] at h9
              rw [hcells _ hlt, hmod] at h9
              obtain ⟨u, u1, u2⟩ := zg j _ h6
              rw [h9] at u1
              simp only [Option.some.injEq] at u1
              subst u1
              rcases hc0_eq u2 with ⟨rfl, e2⟩ | ⟨s, e2, _⟩
              · cases e2
                exact ⟨innOk_nil, fun rb => inner_nil⟩
              · cases e2)
            have hext := Ext.allocG hrh (.nst n hs.length (fun _ => hs) []) (madeCells z.cells (m * i.size)) el m (by simpa [Cont.rows] using hnm) (by rw [size_madeCells]; simp only [Cont.sz]; congr 1; omega) (fun r hr => by simp [Cont.row, Cont.sz])
              (fun j u hu => by
                have hj : j < m * i.size := by
                  rcases Nat.lt_or_ge j (m * i.size) with h' | h'
                  · exact h'
                  · rw [Array.getElem?_eq_none (by rw [size_madeCells]; exact h')] at hu; cases hu
                rw [hcells j hj] at hu
                exact (vrs_plain1 (ι := ι) z4).ones z5 u (List.mem_of_getElem? hu))
              (fun r j hr hj => by
                simp only [Cont.rows] at hr
                simp only [Cont.sz] at hj ⊢
                have hls : hs.length = i.size := by omega
                rw [hls] at hj ⊢
                have hlt : r * i.size + j < m * i.size := by
                  have := Nat.mul_le_mul_right i.size (show r + 1 ≤ m by omega)
                  rw [Nat.add_mul] at this; omega
                have hmod : (r * i.size + j) % i.size = j := by rw [Nat.mul_comm, Nat.mul_add_mod, Nat.mod_eq_of_lt hj]
                obtain ⟨u, u1, u2⟩ := zg j _ (List.getElem?_eq_getElem (show j < hs.length by omega))
                refine ⟨u, (hs[j]'(by omega)).v, by rw [hcells _ hlt, hmod]; exact u1, by simp [Cont.row, show j < hs.length by omega], ?_⟩
                rcases hc0_eq u2 with ⟨rfl, e2⟩ | ⟨s, e2, rfl⟩
                · rw [e2]; exact .hid _ _ _
                · rw [e2]
                  obtain ⟨u', hu', hvr⟩ := (vrs_plain1 (ι := ι) z4).get j _ u1
                  rw [u1] at hu'; cases hu'
                  exact hvr) rfl k1 fun rb hr => .inl (.inr (k2 rb hr))
            refine ⟨_, _, _, hm, ?_, hext⟩
            have := VR.slice (ι := ι ++ [⟨some w.heap.size, 0, hs.length, m⟩]) (b := H.length) (i := 0) (l := n) (c := 1) (c' := m) (getElem?_new _ _ _ hrh.len) rfl hnm (by simp) (by omega)
            simpa [Cont.sz] using this
        · cases h
      · cases h
    · cases h
  · cases h


/-! ### A row is written -/

theorem blkOk_floats {ι ι2 : List Place} {w : World} {p : Place} {o : Bool} {k : FloatKind} {xs : List Nat} (h : BlkOk ι w p ⟨o, .fl k xs⟩) : BlkOk ι2 w p ⟨o, .fl k xs⟩ := by
  refine ⟨h.sz, h.len, fun r j hr hj => ?_, h.own, fun r k hk => by cases hk⟩
  obtain ⟨rb, cs, e, f, v, u, h1, h2, h3, h4, h5, h6⟩ := h.cells r j hr hj
  refine ⟨rb, cs, e, f, v, u, h1, h2, h3, h4, h5.free ?_, h6⟩
  cases j with
  | zero => simp [Cont.row] at h4; subst h4; exact .inr (.inr (.inl ⟨_, _, rfl⟩))
  | succ j => simp [Cont.row] at h4

/-- The slice of an own block of floats: what it is as a hidden one. -/
theorem innOk_of {ι : List Place} {H : Heap} {w : World} (hrh : RH ι H w) {k c : Nat} {xs : List Nat} {v : Value} (hk : H[k]? = some (some ⟨true, .fl .f32 xs⟩)) (hv : VR ι (.slice (some ⟨k, 0, none⟩) xs.length c) v) :
    InnOk w true v xs ∧ ∀ rb, Inner v rb → ∃ pk, ι[k]? = some pk ∧ pk.blk = some rb := by
  have none_ok : ∀ (x : Option Addr) (ys : List Nat), ys = [] → InnOk w true (.slice x 0 0) ys := fun x ys hy => by
    subst hy
    exact ⟨⟨none, 0, 1, 0⟩, ⟨rfl, fun r hr => by simp [Cont.rows] at hr, fun r j hr => by simp [Cont.rows] at hr, fun _ rb hrb => (by cases hrb), fun r k hk => (by cases hk)⟩, .slice0 (fun h => absurd h (by decide)), fun rb hrb => by cases hrb⟩
  generalize hl : xs.length = l at hv
  cases hv with
  | slice hp hb hle hc h0 =>
    rename_i c' p rb
    have hbk := hrh.blk k p _ hp hk
    obtain ⟨hbase, _⟩ := hbk.own rfl rb hb
    by_cases hc0 : c' = 0
    · subst hc0
      have : l = 0 := by omega
      subst this
      refine ⟨?_, ?_⟩
      · have hx := List.eq_nil_of_length_eq_zero hl
        subst hx
        exact ⟨⟨none, 0, 1, 0⟩, ⟨rfl, fun r hr => by simp [Cont.rows] at hr, fun r j hr => by simp [Cont.rows] at hr, fun _ rb hrb => (by cases hrb), fun r k hk => (by cases hk)⟩, .slice0 (fun h => absurd h (by decide)), fun rb hrb => by cases hrb⟩
      · rintro rb' ⟨off, l', c2, h⟩; cases h
    · obtain ⟨d, rfl⟩ : ∃ d, c' = d + 1 := ⟨c' - 1, by omega⟩
      refine ⟨⟨p, blkOk_floats hbk, ?_, fun rb' hrb' => ?_⟩, ?_⟩
      · have := VR.slice (ι := [p]) (b := 0) (i := 0) (l := l) (c := 1) (c' := d + 1) rfl hb hle hc (by intro h; cases h)
        rw [hl]; exact this
      · rw [hb] at hrb'; cases hrb'
        exact ⟨_, _, _, rfl⟩
      · rintro rb' ⟨off, l', c2, h⟩
        simp only [Value.slice.injEq, Option.some.injEq, Addr.mk.injEq] at h
        exact ⟨p, hp, by rw [hb, h.1.1]⟩
  | slice0 hx =>
    refine ⟨none_ok _ _ (List.eq_nil_of_length_eq_zero hl), ?_⟩
    rintro rb' ⟨off, l', c2, h⟩; cases h

theorem hideL_spec {H : Heap} : ∀ {us : List Value} {hs : List HC} {k : Option Nat} {vc : List Prop}, hideL H us = some (hs, k, vc) → AllP vc →
    hs.length = us.length ∧
    (∀ (j : Nat) (h : HC), hs[j]? = some h → (∃ s, h = .c s ∧ us[j]? = some s.v) ∨ (h = .r [] ∧ us[j]? = some (.slice none 0 0)) ∨
      ∃ k0 xs c, h = .r xs ∧ us[j]? = some (.slice (some ⟨k0, 0, none⟩) xs.length c) ∧ k = some k0 ∧ H[k0]? = some (some ⟨true, .fl .f32 xs⟩)) ∧
    (∀ (j j' : Nat) (a a' : Addr) (l c l' c' : Nat), us[j]? = some (.slice (some a) l c) → us[j']? = some (.slice (some a') l' c') → j = j') ∧
    (k = none → ∀ (j : Nat) (a : Addr) (l c : Nat), us[j]? ≠ some (.slice (some a) l c))
  | [], hs, k, vc, h, hv => by
    simp only [hideL, Option.some.injEq, Prod.mk.injEq] at h
    obtain ⟨rfl, rfl, rfl⟩ := h
    exact ⟨rfl, fun j h hj => by simp at hj, fun j j' a a' l c l' c' hj => by simp at hj, fun _ j a l c hj => by simp at hj⟩
  | u :: us, hs, k, vc, h, hv => by
    unfold hideL at h
    split at h
    · cases ‹u :: us = []›
    · rename_i k0 l c r heq
      cases heq
      split at h
      · rename_i xs hs' vc' hb hr
        simp only [Option.some.injEq, Prod.mk.injEq] at h
        obtain ⟨rfl, rfl, rfl⟩ := h
        obtain ⟨rfl, hv⟩ := hv
        obtain ⟨g1, g2, g3, g4⟩ := hideL_spec hr hv
        rw [blkAt_eq] at hb
        refine ⟨by simp [g1], fun j h hj => ?_, fun j j' a a' l c l' c' hj hj' => ?_, fun hn => by cases hn⟩
        · cases j with
          | zero => simp at hj; subst hj; exact .inr (.inr ⟨k0, xs, c, rfl, rfl, rfl, hb⟩)
          | succ j =>
            rcases g2 j h (by simpa using hj) with q | q | ⟨_, _, _, _, _, q, _⟩
            · exact .inl (by simpa using q)
            · exact .inr (.inl (by simpa using q))
            · cases q
        · cases j with
          | zero => cases j' with
            | zero => rfl
            | succ j' => exact absurd (by simpa using hj') (g4 rfl j' a' l' c')
          | succ j => exact absurd (by simpa using hj) (g4 rfl j a l c)
      · cases h
    · rename_i r heq
      cases heq
      split at h
      · rename_i hs' k' vc' hr
        simp only [Option.some.injEq, Prod.mk.injEq] at h
        obtain ⟨rfl, rfl, rfl⟩ := h
        obtain ⟨g1, g2, g3, g4⟩ := hideL_spec hr hv
        refine ⟨by simp [g1], fun j h hj => ?_, fun j j' a a' l c l' c' hj hj' => ?_, fun hn j a l c hj => ?_⟩
        · cases j with
          | zero => simp at hj; subst hj; exact .inr (.inl ⟨rfl, rfl⟩)
          | succ j => simpa using g2 j h (by simpa using hj)
        · cases j with
          | zero => simp at hj
          | succ j => cases j' with
            | zero => simp at hj'
            | succ j' => rw [g3 j j' a a' l c l' c' (by simpa using hj) (by simpa using hj')]
        · cases j with
          | zero => simp at hj
          | succ j => exact g4 hn j a l c (by simpa using hj)
      · cases h
    · rename_i v r n1 n2 heq
      cases heq
      split at h
      · rename_i s hs' k' vc' hsc hr
        simp only [Option.some.injEq, Prod.mk.injEq] at h
        obtain ⟨rfl, rfl, rfl⟩ := h
        obtain ⟨g1, g2, g3, g4⟩ := hideL_spec hr hv
        have hus : u = s.v := by
          have := scsOf_eq (us := [u]) (ss := [s]) (by simp [scsOf, hsc])
          simpa using this
        have hns : ∀ (a : Addr) (l c : Nat), u ≠ .slice (some a) l c := fun a l c e => by
          rw [hus] at e; cases s <;> cases e
        refine ⟨by simp [g1], fun j h hj => ?_, fun j j' a a' l c l' c' hj hj' => ?_, fun hn j a l c hj => ?_⟩
        · cases j with
          | zero => simp at hj; subst hj; exact .inl ⟨s, rfl, by simp [hus]⟩
          | succ j => simpa using g2 j h (by simpa using hj)
        · cases j with
          | zero => simp at hj; exact absurd hj (hns _ _ _)
          | succ j => cases j' with
            | zero => simp at hj'; exact absurd hj' (hns _ _ _)
            | succ j' => rw [g3 j j' a a' l c l' c' (by simpa using hj) (by simpa using hj')]
        · cases j with
          | zero => simp at hj; exact absurd hj (hns _ _ _)
          | succ j => exact g4 hn j a l c (by simpa using hj)
      · cases h

theorem killO_len (H : Heap) (k : Option Nat) : (killO H k).length = H.length := by
  cases k with
  | none => rfl
  | some k => simp [killO, setAt_eq]

theorem killO_get {H : Heap} {k : Option Nat} {i : Nat} {c : Blk} (h : (killO H k)[i]? = some (some c)) : H[i]? = some (some c) ∧ k ≠ some i := by
  cases k with
  | none => exact ⟨h, by simp⟩
  | some k =>
    simp only [killO, setAt_eq, List.getElem?_set] at h
    split at h
    · split at h <;> cases h
    · rename_i hne; exact ⟨h, by simpa using hne⟩

theorem killO_other {H : Heap} {k : Option Nat} {b : Nat} (h : neO b k = true) : (killO H k)[b]? = H[b]? := by
  cases k with
  | none => rfl
  | some k =>
    simp only [neO, Bool.not_eq_true'] at h
    have hne : k ≠ b := fun e => by subst e; simp at h
    simp only [killO, setAt_eq, List.getElem?_set, if_neg hne]

theorem RH.killO {H : Heap} (h : RH ι H w) (k : Option Nat) : RH ι (killO H k) w := by
  cases k with
  | none => exact h
  | some k => simp only [Sim.killO, setAt_eq]; exact (Ext.kill h k).rh

theorem evStoreN_sound {H H' : Heap} {t : TypeId} {x v x' v' : Value} {vc : List Prop} (h : evStoreN P H t x v = some (H', vc)) (hv : AllP vc) (hx : VR ι x x') (hvv : VR ι v v') (hrh : RH ι H w) :
    ∃ w', (Instr.storeAt t x' v').run P w = .ok () w' ∧ Ext ι H w ι H' w' := by
  unfold evStoreN at h
  split at h
  · rename_i b r
    cases hx with | ptr hp hb =>
    rename_i p rb
    split at h
    · rename_i n sz g o hblk
      rw [blkAt_eq] at hblk
      cases hcnd : (allP one1 (cellsV v) && Nat.beq (cellsV v).length (P.cellsOf t) && (P.info? t).isSome && Nat.beq (cellsV v).length sz) with
      | false => simp [hcnd] at h
      | true =>
        simp only [hcnd, cond_true] at h
        simp only [Bool.and_eq_true] at hcnd
        obtain ⟨⟨⟨hone, hn⟩, hinfo⟩, hnsz⟩ := hcnd
        have hn := Nat.eq_of_beq_eq_true hn
        have hnsz := Nat.eq_of_beq_eq_true hnsz
        split at h
        · rename_i hs k vc1 hhide
          cases hne : neO b k with
          | false => simp [hne] at h
          | true =>
          simp only [hne, cond_true, Option.some.injEq, Prod.mk.injEq] at h
          obtain ⟨rfl, rfl⟩ := h
          obtain ⟨hr, hv⟩ := hv
          obtain ⟨L1, L2, L3, L4⟩ := hideL_spec hhide hv
          have hbk := hrh.blk b p _ hp hblk
          obtain ⟨hbase, hcap, cs, e, hcs, hcsz, hcone⟩ := hbk.own rfl rb hb
          simp only [Cont.rows] at hcap
          have hcells := hvv.cells
          have hlen := hcells.length
          have hreal := hcells.ones hone
          have hsz : p.sz = sz := hbk.sz
          have hfit : r * p.sz + v'.cells.toList.length ≤ cs.size := by
            rw [← hlen, hcsz]
            have h1 := Nat.mul_le_mul_right p.sz (show r + 1 ≤ p.cap by omega)
            rw [Nat.add_mul] at h1
            omega
          have hst := run_storeCells_at P rb (r * p.sz) e v'.cells.toList 0 cs w hcs (by simpa using hfit) hreal
          simp only [Nat.add_zero] at hst
          generalize hcs' : (splice cs.toList (r * p.sz) v'.cells.toList).toArray = cs'
          have hget : ∀ i : Nat, cs'[i]? = if r * p.sz ≤ i ∧ i < r * p.sz + v'.cells.toList.length then v'.cells.toList[i - r * p.sz]? else cs[i]? := by
            intro i
            rw [← hcs', List.getElem?_toArray, getElem?_splice _ _ _ (by simpa using hfit)]
            split
            · rfl
            · simp
          have hsize : cs'.size = cs.size := by
            rw [← hcs']
            simp only [List.size_toArray]
            rw [length_splice _ _ _ (by simpa using hfit)]
            simp
          have hcone' : ∀ (j : Nat) (u : Value), cs'[j]? = some u → u.oneCell' = true := by
            intro i u hu
            rw [hget i] at hu
            split at hu
            · exact hreal u (List.mem_of_getElem? hu)
            · exact hcone i u hu
          have hkb : (killO H k)[b]? = some (some ⟨true, .nst n sz g o⟩) := by rw [killO_other hne]; exact hblk
          have hlr : ∀ r', r' < n → (g r').length = sz := fun r' hr' => by simpa [Cont.row, Cont.sz] using hbk.len r' hr'
          -- the cells, behind it
          have cellat : ∀ (r' j' : Nat), r' < n → j' < sz → (r' = r ∧ cs'[r' * p.sz + j']? = v'.cells.toList[j']?) ∨ (r' ≠ r ∧ cs'[r' * p.sz + j']? = cs[r' * p.sz + j']?) := by
            intro r' j' hr' hj'
            have hw := idx_window (sz := p.sz) (r := r) (r' := r') (j := 0) (j' := j') (n := v'.cells.toList.length) (by omega) (by omega)
            simp only [Nat.add_zero, Nat.zero_le, Nat.zero_add, true_and] at hw
            rw [hget]
            by_cases hrr : r' = r
            · subst hrr
              rw [if_pos ⟨by omega, by omega⟩]
              exact .inl ⟨rfl, by congr 1; omega⟩
            · rw [if_neg (fun hh => hrr (hw.1 hh).1)]
              exact .inr ⟨hrr, rfl⟩
          have hsetother : ∀ rb', rb' ≠ rb → (w.setRow rb cs').heap[rb']? = w.heap[rb']? := fun rb' hne' => setRow_other w rb rb' cs' hne'
          -- a written slice
          have new : ∀ (j : Nat) (xs : List Nat) (v2 : Value), hs[j]? = some (HC.r xs) → v'.cells.toList[j]? = some v2 → InnOk (w.setRow rb cs') true v2 xs ∧ ∀ rb', Inner v2 rb' → ∃ k0 pk, k = some k0 ∧ ι[k0]? = some pk ∧ H[k0]? = some (some ⟨true, .fl .f32 xs⟩) ∧ pk.blk = some rb' ∧
              ∃ a l c, (cellsV v)[j]? = some (.slice (some a) l c) := by
            intro j xs v2 hj hv2
            rcases L2 j _ hj with ⟨s, q, _⟩ | ⟨q, q2⟩ | ⟨k0, xs0, c, q, q2, q3, q4⟩
            · cases q
            · cases q
              obtain ⟨u', hu', hvr⟩ := hcells.get j _ q2
              rw [hv2] at hu'; cases hu'
              cases hvr
              exact ⟨innOk_nil, fun rb' hi => absurd hi inner_nil⟩
            · cases q
              obtain ⟨u', hu', hvr⟩ := hcells.get j _ q2
              rw [hv2] at hu'; cases hu'
              obtain ⟨m1, m2⟩ := innOk_of hrh q4 hvr
              have hkne : k0 ≠ b := fun e' => by
                subst e'
                rw [q3] at hne
                simp [neO] at hne
              have m3 : ∀ rb', Inner v2 rb' → rb' ≠ rb := fun rb' hi e' => by
                subst e'
                obtain ⟨pk, y1, y2⟩ := m2 rb' hi
                exact hrh.sep k0 b pk p _ _ rb' y1 q4 rfl hp hblk hkne y2 hb
              refine ⟨m1.of_heap id fun rb' hi _ => hsetother rb' (m3 rb' hi), fun rb' hi => ?_⟩
              obtain ⟨pk, y1, y2⟩ := m2 rb' hi
              exact ⟨k0, pk, q3, y1, q4, y2, _, _, _, q2⟩
          -- hidden slices behind it
          have cls : ∀ (i r' j : Nat) (own : Bool) (xs : List Nat) (v2 : Value), HidCell ι ((killO H k).set b (some ⟨true, .nst n sz (fun i => bif Nat.beq i r then hs else g i) []⟩)) (w.setRow rb cs') i r' j own xs v2 →
              (HidCell ι H w i r' j own xs v2 ∧ ¬ (i = b ∧ r' = r)) ∨ (i = b ∧ r' = r ∧ own = true ∧ hs[j]? = some (.r xs) ∧ v'.cells.toList[j]? = some v2) := by
            rintro i r' j own xs v2 ⟨q, c, n', sz', g', o', rb', cs2, e2, f2, h1, h2, h3, h4, h5, h6, h7, h8, h9⟩
            rw [List.getElem?_set] at h2
            split at h2
            · rename_i hi
              subst hi
              have hbl : b < (killO H k).length := some_lt hkb
              rw [if_pos hbl] at h2
              simp only [Option.some.injEq] at h2
              subst h2
              simp only [Cont.nst.injEq] at h4
              obtain ⟨rfl, rfl, rfl, rfl⟩ := h4
              rw [hp] at h1; cases h1
              rw [hb] at h7; cases h7
              rw [setRow_heap w rb cs cs' e (0, 0) hcs] at h8
              simp only [Option.some.injEq, Obj.cells.injEq] at h8
              obtain ⟨rfl, rfl, rfl⟩ := h8
              rw [hbase, Nat.zero_add] at h9
              cases hrr : Nat.beq r' r with
              | true =>
                have := Nat.eq_of_beq_eq_true hrr
                subst this
                simp only [hrr, cond_true] at h6
                have hjs : j < sz := by have := some_lt h6; omega
                rcases cellat r' j h5 hjs with ⟨_, q1⟩ | ⟨q1, _⟩
                · rw [q1] at h9
                  exact .inr ⟨rfl, rfl, h3.symm, h6, h9⟩
                · exact absurd rfl q1
              | false =>
                have hrr' : r' ≠ r := fun e' => by subst e'; simp at hrr
                simp only [hrr, cond_false] at h6
                have hjs : j < sz := by have := some_lt h6; rw [hlr r' h5] at this; exact this
                rcases cellat r' j h5 hjs with ⟨q1, _⟩ | ⟨_, q1⟩
                · exact absurd q1 hrr'
                · rw [q1] at h9
                  exact .inl ⟨⟨p, _, n, sz, g, o, rb, cs, e, (0, 0), hp, hblk, h3, rfl, h5, h6, hb, hcs, by rw [hbase, Nat.zero_add]; exact h9⟩, fun hh => hrr' hh.2⟩
            · rename_i hi
              obtain ⟨h2, _⟩ := killO_get h2
              have hne2 : rb' ≠ rb := fun e' => by subst e'; exact hrh.sep b i p q _ c _ hp hblk rfl h1 h2 hi hb h7
              rw [hsetother rb' hne2] at h8
              exact .inl ⟨⟨q, c, n', sz', g', o', rb', cs2, e2, f2, h1, h2, h3, h4, h5, h6, h7, h8, h9⟩, fun hh => hi hh.1.symm⟩
          have blkold : ∀ (i : Nat) (c : Blk), ((killO H k).set b (some ⟨true, .nst n sz (fun i => bif Nat.beq i r then hs else g i) []⟩))[i]? = some (some c) → ∃ c0, H[i]? = some (some c0) ∧ c0.own = c.own ∧ k ≠ some i := by
            intro i c h2
            rw [List.getElem?_set] at h2
            split at h2
            · rename_i hi; subst hi
              split at h2
              · simp only [Option.some.injEq] at h2; subst h2
                exact ⟨_, hblk, rfl, fun e' => by rw [e'] at hne; simp [neO] at hne⟩
              · cases h2
            · obtain ⟨h2, h3⟩ := killO_get h2
              exact ⟨c, h2, rfl, h3⟩
          have hhid : HidOk ι ((killO H k).set b (some ⟨true, .nst n sz (fun i => bif Nat.beq i r then hs else g i) []⟩)) (w.setRow rb cs') := by
            refine ⟨?_, ?_, ?_, ?_, ?_⟩
            · intro i r' j own xs v2 hc
              rcases cls _ _ _ _ _ _ hc with ⟨c1, _⟩ | ⟨_, _, rfl, c4, c5⟩
              · exact (hrh.hid.ok _ _ _ _ _ _ c1).of_heap id fun rb' hi _ => hsetother rb' fun e' => by
                  subst e'; exact hrh.hid.s1 b p _ _ hp hblk rfl hb _ _ _ _ _ _ c1 hi
              · exact (new _ _ _ c4 c5).1
            · intro i r' j own xs v2 rb' hc hi
              simp only [setRow_size]
              rcases cls _ _ _ _ _ _ hc with ⟨c1, _⟩ | ⟨_, _, rfl, c4, c5⟩
              · exact hrh.hid.lt _ _ _ _ _ _ _ c1 hi
              · obtain ⟨k0, pk, y1, y2, y3, y4, _⟩ := (new _ _ _ c4 c5).2 rb' hi
                exact hrh.lt k0 pk _ rb' y2 y3 y4
            · intro i q c rb' hq hcq hoq hrb' i' r' j own xs v2 hc hi
              obtain ⟨c0, hc0, ho0, hk0⟩ := blkold i c hcq
              rcases cls _ _ _ _ _ _ hc with ⟨c1, _⟩ | ⟨_, _, rfl, c4, c5⟩
              · exact hrh.hid.s1 i q c0 rb' hq hc0 (by rw [ho0]; exact hoq) hrb' _ _ _ _ _ _ c1 hi
              · obtain ⟨k0, pk, y1, y2, y3, y4, _⟩ := (new _ _ _ c4 c5).2 rb' hi
                exact hrh.sep k0 i pk q _ c0 rb' y2 y3 rfl hq hc0 (fun e' => hk0 (by rw [y1, e'])) y4 hrb'
            · intro i r' j xs v2 rb' hc hi i' q c hq hcq hrb'
              obtain ⟨c0, hc0, ho0, hk0⟩ := blkold i' c hcq
              rcases cls _ _ _ _ _ _ hc with ⟨c1, _⟩ | ⟨_, _, _, c4, c5⟩
              · exact hrh.hid.s2 _ _ _ _ _ _ c1 hi i' q c0 hq hc0 hrb'
              · obtain ⟨k0, pk, y1, y2, y3, y4, _⟩ := (new _ _ _ c4 c5).2 rb' hi
                exact hrh.sep k0 i' pk q _ c0 rb' y2 y3 rfl hq hc0 (fun e' => hk0 (by rw [y1, e'])) y4 hrb'
            · intro i r' j xs v2 rb' hc hi i' r'' j' own' xs' v3 hc' hi'
              rcases cls _ _ _ _ _ _ hc with ⟨c1, c2⟩ | ⟨rfl, rfl, _, c4, c5⟩
              · rcases cls _ _ _ _ _ _ hc' with ⟨d1, d2⟩ | ⟨rfl, rfl, _, d4, d5⟩
                · exact hrh.hid.s3 _ _ _ _ _ _ c1 hi _ _ _ _ _ _ d1 hi'
                · obtain ⟨k0, pk, y1, y2, y3, y4, _⟩ := (new _ _ _ d4 d5).2 rb' hi'
                  exact absurd hi (hrh.hid.s1 k0 pk _ rb' y2 y3 rfl y4 _ _ _ _ _ _ c1)
              · obtain ⟨k0, pk, y1, y2, y3, y4, a, l, c, y5⟩ := (new _ _ _ c4 c5).2 rb' hi
                rcases cls _ _ _ _ _ _ hc' with ⟨d1, d2⟩ | ⟨rfl, rfl, _, d4, d5⟩
                · exact absurd hi' (hrh.hid.s1 k0 pk _ rb' y2 y3 rfl y4 _ _ _ _ _ _ d1)
                · obtain ⟨_, _, _, _, _, _, a', l', c', z5⟩ := (new _ _ _ d4 d5).2 rb' hi'
                  exact ⟨rfl, rfl, (L3 _ _ _ _ _ _ _ _ y5 z5).symm⟩
          have hrh2 := RH.putG (hrh.killO k) (c' := .nst n sz (fun i => bif Nat.beq i r then hs else g i) []) hp hkb rfl hb hcs hsize hcone' rfl rfl
            (fun r' hr' => by
              simp only [Cont.row, List.length_map, Cont.sz]
              cases hrr : Nat.beq r' r with
              | true => simp only [cond_true]; omega
              | false => simp only [cond_false]; exact hlr r' hr')
            (fun r' j' hr' hj' => by
              simp only [Cont.rows] at hr'
              simp only [Cont.sz] at hj'
              simp only [Cont.row]
              rcases cellat r' j' hr' hj' with ⟨rfl, q1⟩ | ⟨hrr, q1⟩
              · have hb1 : Nat.beq r' r' = true := by simp
                have hj2 : j' < hs.length := by omega
                have hj3 : j' < (cellsV v).length := by omega
                rw [q1]
                obtain ⟨u', hu', hvr⟩ := hcells.get j' _ (List.getElem?_eq_getElem hj3)
                refine ⟨u', (hs[j']).v, hu', by simp [hj2], ?_⟩
                rcases L2 j' _ (List.getElem?_eq_getElem hj2) with ⟨s, e1, e2⟩ | ⟨e1, e2⟩ | ⟨k0, xs, c, e1, e2, _⟩
                · rw [List.getElem?_eq_getElem hj3, Option.some.injEq] at e2
                  rw [e1]; rw [e2] at hvr; exact hvr
                · rw [List.getElem?_eq_getElem hj3, Option.some.injEq] at e2
                  rw [e1]; rw [e2] at hvr; cases hvr; exact .hid _ _ _
                · rw [List.getElem?_eq_getElem hj3, Option.some.injEq] at e2
                  rw [e1]; rw [e2] at hvr; generalize xs.length = l at hvr; cases hvr <;> exact .hid _ _ _
              · have hb1 : Nat.beq r' r = false := by cases hbb : Nat.beq r' r with
                  | false => rfl
                  | true => exact absurd (Nat.eq_of_beq_eq_true hbb) hrr
                rw [q1]
                obtain ⟨rb', cs2, e2, f2, v2, u2, q1, q2, q3, q4, q5, _⟩ := hbk.cells r' j' hr' hj'
                rw [hb] at q1; cases q1
                rw [hcs] at q2; cases q2
                rw [hbase] at q3
                exact ⟨v2, u2, by simpa using q3, by simpa [hb1, Cont.row] using q4, q5⟩)
            rfl hhid
          refine ⟨w.setRow rb cs', ?_, ?_⟩
          · have hcl : v'.cells.size = P.cellsOf t := by rw [← hn, hlen]; simp
            simp [Instr.storeAt, Instr.sureAddr, storeVar, run_sizeOf' hinfo w, hcl, hbase]
            rw [← hcs']
            exact hst
          · rw [setAt_eq]
            refine ⟨⟨[], by simp⟩, hrh2, ⟨rfl, rfl, rfl, by simp, fun rb' hr' hn' => hsetother rb' fun e' => ?_⟩, ?_⟩
            · subst e'
              exact hn' (.inl ⟨b, p, _, hp, hblk, rfl, hb⟩)
            · rintro rb' (⟨i, q, c, hq, hcq, hoq, hrb'⟩ | ⟨i, r', j, xs, v2, hc, hi⟩)
              · obtain ⟨c0, hc0, ho0, hk0⟩ := blkold i c hcq
                exact .inl (.inl ⟨i, q, c0, hq, hc0, by rw [ho0]; exact hoq, hrb'⟩)
              · rcases cls _ _ _ _ _ _ hc with ⟨c1, _⟩ | ⟨_, _, _, c4, c5⟩
                · exact .inl (.inr ⟨i, r', j, xs, v2, c1, hi⟩)
                · obtain ⟨k0, pk, y1, y2, y3, y4, _⟩ := (new _ _ _ c4 c5).2 rb' hi
                  exact .inl (.inl ⟨k0, pk, _, y2, y3, rfl, y4⟩)
        · cases h
    · cases h
  · cases h


/-! ### A scalar of a row is written -/

theorem setHC_spec {s : Sc} : ∀ {j : Nat} {l hs : List HC}, setHC s j l = some hs → j < l.length ∧ hs.length = l.length ∧ hs[j]? = some (.c s) ∧ ∀ i, i ≠ j → hs[i]? = l[i]?
  | _, [], hs, h => by simp [setHC] at h
  | 0, .c _ :: l, hs, h => by
    simp only [setHC, Option.some.injEq] at h; subst h
    refine ⟨by simp, by simp, rfl, fun i hi => ?_⟩
    cases i with
    | zero => exact absurd rfl hi
    | succ i => simp
  | 0, .r _ :: l, hs, h => by simp [setHC] at h
  | j + 1, x :: l, hs, h => by
    simp only [setHC, Option.map_eq_some_iff] at h
    obtain ⟨t, ht, rfl⟩ := h
    obtain ⟨h1, h2, h3, h4⟩ := setHC_spec ht
    refine ⟨by simpa using h1, by simp [h2], by simpa using h3, fun i hi => ?_⟩
    cases i with
    | zero => rfl
    | succ i => simpa using h4 i (by omega)

theorem evStoreC_sound {H H' : Heap} {t : TypeId} {x v x' v' : Value} {vc : List Prop} {f : Nat → List HC} (h : evStoreC P H t x v f = some (H', vc)) (hv : AllP vc) (hx : VR ι x x') (hvv : VR ι v v') (hrh : RH ι H w) :
    ∃ w', (Instr.storeAt t x' v').run P w = .ok () w' ∧ Ext ι H w ι H' w' := by
  unfold evStoreC at h
  split at h
  · rename_i b r j
    cases hx with | ptr hp hb =>
    rename_i p rb
    split at h
    · rename_i n sz g o hblk
      rw [blkAt_eq] at hblk
      cases hcnd : (Nat.beq (P.cellsOf t) 1 && (P.info? t).isSome) with
      | false => simp [hcnd] at h
      | true =>
        simp only [hcnd, cond_true] at h
        simp only [Bool.and_eq_true] at hcnd
        obtain ⟨hn, hinfo⟩ := hcnd
        have hn := Nat.eq_of_beq_eq_true hn
        split at h
        · rename_i s hsc
          split at h
          · rename_i hs hset
            simp only [Option.some.injEq, Prod.mk.injEq] at h
            obtain ⟨rfl, rfl⟩ := h
            obtain ⟨hr, hf, _⟩ := hv
            have hf' : f = fun i => bif Nat.beq i r then hs else g i := funext hf
            subst hf'
            clear hf
            obtain ⟨L1, L2, L3, L4⟩ := setHC_spec hset
            have hvs : v = s.v := by
              have := scsOf_eq (us := [v]) (ss := [s]) (by simp [scsOf, hsc])
              simpa using this
            have hcv : cellsV v = [v] := by rw [hvs]; cases s <;> rfl
            have hone : allP one1 (cellsV v) = true := by rw [hcv, hvs]; cases s <;> rfl
            have hbk := hrh.blk b p _ hp hblk
            obtain ⟨hbase, hcap, cs, e, hcs, hcsz, hcone⟩ := hbk.own rfl rb hb
            simp only [Cont.rows] at hcap
            have hcells := hvv.cells
            have hlen := hcells.length
            have hreal := hcells.ones hone
            have hsz : p.sz = sz := hbk.sz
            have hlr : ∀ r', r' < n → (g r').length = sz := fun r' hr' => by simpa [Cont.row, Cont.sz] using hbk.len r' hr'
            have hgr := hlr r hr
            have hl1 : v'.cells.toList.length = 1 := by rw [← hlen, hcv]; rfl
            have hfit : r * p.sz + j + v'.cells.toList.length ≤ cs.size := by
              rw [hl1, hcsz]
              have h1 := Nat.mul_le_mul_right p.sz (show r + 1 ≤ p.cap by omega)
              rw [Nat.add_mul] at h1
              omega
            have hst := run_storeCells_at P rb (r * p.sz + j) e v'.cells.toList 0 cs w hcs (by simpa using hfit) hreal
            simp only [Nat.add_zero] at hst
            generalize hcs' : (splice cs.toList (r * p.sz + j) v'.cells.toList).toArray = cs'
            have hget : ∀ i : Nat, cs'[i]? = if r * p.sz + j ≤ i ∧ i < r * p.sz + j + v'.cells.toList.length then v'.cells.toList[i - (r * p.sz + j)]? else cs[i]? := by
              intro i
              rw [← hcs', List.getElem?_toArray, getElem?_splice _ _ _ (by simpa using hfit)]
              split
              · rfl
              · simp
            have hsize : cs'.size = cs.size := by
              rw [← hcs']
              simp only [List.size_toArray]
              rw [length_splice _ _ _ (by simpa using hfit)]
              simp
            have hcone' : ∀ (j : Nat) (u : Value), cs'[j]? = some u → u.oneCell' = true := by
              intro i u hu
              rw [hget i] at hu
              split at hu
              · exact hreal u (List.mem_of_getElem? hu)
              · exact hcone i u hu
            have cellat : ∀ (r' j' : Nat), r' < n → j' < sz → (r' = r ∧ j' = j ∧ cs'[r' * p.sz + j']? = v'.cells.toList[0]?) ∨ (¬ (r' = r ∧ j' = j) ∧ cs'[r' * p.sz + j']? = cs[r' * p.sz + j']?) := by
              intro r' j' hr' hj'
              have hw := idx_window (sz := p.sz) (r := r) (r' := r') (j := j) (j' := j') (n := v'.cells.toList.length) (by omega) (by omega)
              rw [hget]
              by_cases hrr : r' = r ∧ j' = j
              · obtain ⟨rfl, rfl⟩ := hrr
                rw [if_pos ⟨by omega, by omega⟩]
                exact .inl ⟨rfl, rfl, by congr 1; omega⟩
              · rw [if_neg (fun hh => hrr (by have := hw.1 hh; omega))]
                exact .inr ⟨hrr, rfl⟩
            have hsetother : ∀ rb', rb' ≠ rb → (w.setRow rb cs').heap[rb']? = w.heap[rb']? := fun rb' hne' => setRow_other w rb rb' cs' hne'
            -- hidden slices behind it
            have cls : ∀ (i r' j' : Nat) (own : Bool) (xs : List Nat) (v2 : Value), HidCell ι (H.set b (some ⟨true, .nst n sz (fun i => bif Nat.beq i r then hs else g i) []⟩)) (w.setRow rb cs') i r' j' own xs v2 →
                HidCell ι H w i r' j' own xs v2 := by
              rintro i r' j' own xs v2 ⟨q, c, n', sz', g', o', rb', cs2, e2, f2, h1, h2, h3, h4, h5, h6, h7, h8, h9⟩
              rw [List.getElem?_set] at h2
              split at h2
              · rename_i hi
                subst hi
                have hbl : b < H.length := some_lt hblk
                rw [if_pos hbl] at h2
                simp only [Option.some.injEq] at h2
                subst h2
                simp only [Cont.nst.injEq] at h4
                obtain ⟨rfl, rfl, rfl, rfl⟩ := h4
                rw [hp] at h1; cases h1
                rw [hb] at h7; cases h7
                rw [setRow_heap w rb cs cs' e (0, 0) hcs] at h8
                simp only [Option.some.injEq, Obj.cells.injEq] at h8
                obtain ⟨rfl, rfl, rfl⟩ := h8
                rw [hbase, Nat.zero_add] at h9
                have hold : (g r')[j']? = some (HC.r xs) ∧ ¬ (r' = r ∧ j' = j) := by
                  cases hrr : Nat.beq r' r with
                  | true =>
                    have := Nat.eq_of_beq_eq_true hrr
                    subst this
                    simp only [hrr, cond_true] at h6
                    by_cases hjj : j' = j
                    · subst hjj
                      rw [L3] at h6; cases h6
                    · rw [L4 j' hjj] at h6
                      exact ⟨h6, fun hh => hjj hh.2⟩
                  | false =>
                    have hrr' : r' ≠ r := fun e' => by subst e'; simp at hrr
                    simp only [hrr, cond_false] at h6
                    exact ⟨h6, fun hh => hrr' hh.1⟩
                have hjs : j' < sz := by have := some_lt hold.1; rw [hlr r' h5] at this; exact this
                rcases cellat r' j' h5 hjs with ⟨q1, q2, _⟩ | ⟨_, q1⟩
                · exact absurd ⟨q1, q2⟩ hold.2
                · rw [q1] at h9
                  exact ⟨p, _, n, sz, g, o, rb, cs, e, (0, 0), hp, hblk, h3, rfl, h5, hold.1, hb, hcs, by rw [hbase, Nat.zero_add]; exact h9⟩
              · rename_i hi
                have hne2 : rb' ≠ rb := fun e' => by subst e'; exact hrh.sep b i p q _ c _ hp hblk rfl h1 h2 hi hb h7
                rw [hsetother rb' hne2] at h8
                exact ⟨q, c, n', sz', g', o', rb', cs2, e2, f2, h1, h2, h3, h4, h5, h6, h7, h8, h9⟩
            have blkold : ∀ (i : Nat) (c : Blk), (H.set b (some ⟨true, .nst n sz (fun i => bif Nat.beq i r then hs else g i) []⟩))[i]? = some (some c) → ∃ c0, H[i]? = some (some c0) ∧ c0.own = c.own := by
              intro i c h2
              rw [List.getElem?_set] at h2
              split at h2
              · rename_i hi; subst hi
                split at h2
                · simp only [Option.some.injEq] at h2; subst h2
                  exact ⟨_, hblk, rfl⟩
                · cases h2
              · exact ⟨c, h2, rfl⟩
            have hhid : HidOk ι (H.set b (some ⟨true, .nst n sz (fun i => bif Nat.beq i r then hs else g i) []⟩)) (w.setRow rb cs') := by
              refine hrh.hid.via (fun a b => a = b) (by simp) (fun i r' j' own xs v2 hc => ⟨i, own, rfl, cls _ _ _ _ _ _ hc, id, fun rb' hi _ => hsetother rb' fun e' => ?_⟩) (fun _ _ _ _ _ _ _ _ _ _ _ _ _ _ a b => by rw [a, b]) fun i q c rb' h1 h2 h3 => ?_
              · subst e'
                exact hrh.hid.s1 b p _ _ hp hblk rfl hb _ _ _ _ _ _ (cls _ _ _ _ _ _ hc) hi
              · obtain ⟨c0, hc0, ho0⟩ := blkold i c h2
                exact .inr ⟨i, q, c0, h1, h3, hc0, fun ho => by rw [ho0]; exact ho⟩
            have hrh2 := RH.putG hrh (c' := .nst n sz (fun i => bif Nat.beq i r then hs else g i) []) hp hblk rfl hb hcs hsize hcone' rfl rfl
              (fun r' hr' => by
                simp only [Cont.row, List.length_map, Cont.sz]
                cases hrr : Nat.beq r' r with
                | true => simp only [cond_true]; omega
                | false => simp only [cond_false]; exact hlr r' hr')
              (fun r' j' hr' hj' => by
                simp only [Cont.rows] at hr'
                simp only [Cont.sz] at hj'
                simp only [Cont.row]
                rcases cellat r' j' hr' hj' with ⟨rfl, rfl, q1⟩ | ⟨hrr, q1⟩
                · have hb1 : Nat.beq r' r' = true := by simp
                  rw [q1]
                  obtain ⟨u', hu', hvr⟩ := hcells.get 0 v (by rw [hcv]; rfl)
                  refine ⟨u', s.v, hu', by simp [L3, HC.v], ?_⟩
                  rw [← hvs]; exact hvr
                · rw [q1]
                  obtain ⟨rb', cs2, e2, f2, v2, u2, q1, q2, q3, q4, q5, _⟩ := hbk.cells r' j' hr' hj'
                  rw [hb] at q1; cases q1
                  rw [hcs] at q2; cases q2
                  rw [hbase] at q3
                  refine ⟨v2, u2, by simpa using q3, ?_, q5⟩
                  cases hb1 : Nat.beq r' r with
                  | false => simpa [hb1, Cont.row] using q4
                  | true =>
                    have := Nat.eq_of_beq_eq_true hb1
                    subst this
                    have hjj : j' ≠ j := fun e' => hrr ⟨rfl, e'⟩
                    simp only [cond_true, List.getElem?_map, L4 j' hjj]
                    simpa [Cont.row] using q4)
              rfl hhid
            refine ⟨w.setRow rb cs', ?_, ?_⟩
            · have hcl : v'.cells.size = P.cellsOf t := by rw [hn]; simpa using hl1
              simp [Instr.storeAt, Instr.sureAddr, storeVar, run_sizeOf' hinfo w, hcl, hbase]
              rw [← hcs']
              exact hst
            · rw [setAt_eq]
              refine ⟨⟨[], by simp⟩, hrh2, ⟨rfl, rfl, rfl, by simp, fun rb' hr' hn' => hsetother rb' fun e' => ?_⟩, ?_⟩
              · subst e'
                exact hn' (.inl ⟨b, p, _, hp, hblk, rfl, hb⟩)
              · rintro rb' (⟨i, q, c, hq, hcq, hoq, hrb'⟩ | ⟨i, r', j, xs, v2, hc, hi⟩)
                · obtain ⟨c0, hc0, ho0⟩ := blkold i c hcq
                  exact .inl (.inl ⟨i, q, c0, hq, hc0, by rw [ho0]; exact hoq, hrb'⟩)
                · exact .inl (.inr ⟨i, r', j, xs, v2, cls _ _ _ _ _ _ hc, hi⟩)
          · cases h
        · cases h
    · cases h
  · cases h

/-! ### Slices taken over -/

/-- Where a hidden slice comes from: a cell of the state before, an own block of floats, or nowhere (no room). -/
inductive Src where
  | cell (i r j : Nat)
  | blk (k : Nat)
  | no

theorem hid_take {ι ι' : List Place} {H H' : Heap} {w w' : World} (hrh : RH ι H w) (src : Nat → Nat → Nat → Src) (hs : w.heap.size ≤ w'.heap.size)
    (h1 : ∀ i r j own xs v, HidCell ι' H' w' i r j own xs v →
      (∃ i0 r0 j0 own0, src i r j = .cell i0 r0 j0 ∧ HidCell ι H w i0 r0 j0 own0 xs v ∧ (own = true → own0 = true) ∧ ∀ rb, Inner v rb → rb < w.heap.size → w'.heap[rb]? = w.heap[rb]?) ∨
      (∃ k c, src i r j = .blk k ∧ own = true ∧ H[k]? = some (some ⟨true, .fl .f32 xs⟩) ∧ VR ι (.slice (some ⟨k, 0, none⟩) xs.length c) v ∧ ∀ rb, Inner v rb → rb < w.heap.size → w'.heap[rb]? = w.heap[rb]?) ∨
      (src i r j = .no ∧ InnOk w' own v xs ∧ ∀ rb, ¬ Inner v rb))
    (h2 : ∀ i r j xs v i' r' j' own' xs' v', HidCell ι' H' w' i r j true xs v → HidCell ι' H' w' i' r' j' own' xs' v' → src i r j ≠ .no → src i' r' j' = src i r j → i' = i ∧ r' = r ∧ j' = j)
    (h3 : ∀ (i' : Nat) (p : Place) (b : Blk) (rb : Nat), ι'[i']? = some p → H'[i']? = some (some b) → p.blk = some rb →
      w.heap.size ≤ rb ∨ ∃ (i0 : Nat) (p0 : Place) (b0 : Blk), ι[i0]? = some p0 ∧ p0.blk = some rb ∧ H[i0]? = some (some b0) ∧ (b.own = true → b0.own = true) ∧ ∀ i r j own xs v, HidCell ι' H' w' i r j own xs v → src i r j ≠ .blk i0) :
    HidOk ι' H' w' ∧ ∀ rb, Own2 ι' H' w' rb → Own ι H w rb := by
  have inn : ∀ {i r j own xs v}, HidCell ι' H' w' i r j own xs v → ∀ rb, Inner v rb →
      (∃ i0 r0 j0 own0, src i r j = .cell i0 r0 j0 ∧ HidCell ι H w i0 r0 j0 own0 xs v ∧ (own = true → own0 = true)) ∨ (∃ k pk, src i r j = .blk k ∧ ι[k]? = some pk ∧ H[k]? = some (some ⟨true, .fl .f32 xs⟩) ∧ pk.blk = some rb) := by
    intro i r j own xs v hc rb hi
    rcases h1 _ _ _ _ _ _ hc with ⟨i0, r0, j0, own0, a1, a2, a3, _⟩ | ⟨k, c, a1, a2, a3, a4, _⟩ | ⟨_, _, a3⟩
    · exact .inl ⟨i0, r0, j0, own0, a1, a2, a3⟩
    · obtain ⟨pk, y1, y2⟩ := (innOk_of hrh a3 a4).2 rb hi
      exact .inr ⟨k, pk, a1, y1, a3, y2⟩
    · exact absurd hi (a3 rb)
  refine ⟨⟨?_, ?_, ?_, ?_, ?_⟩, ?_⟩
  · intro i r j own xs v hc
    rcases h1 _ _ _ _ _ _ hc with ⟨i0, r0, j0, own0, a1, a2, a3, a4⟩ | ⟨k, c, a1, a2, a3, a4, a5⟩ | ⟨_, a2, _⟩
    · exact (hrh.hid.ok _ _ _ _ _ _ a2).of_heap a3 a4
    · exact (innOk_of hrh a3 a4).1.of_heap (fun _ => rfl) a5
    · exact a2
  · intro i r j own xs v rb hc hi
    rcases inn hc rb hi with ⟨i0, r0, j0, own0, a1, a2, a3⟩ | ⟨k, pk, a1, a2, a3, a4⟩
    · exact Nat.lt_of_lt_of_le (hrh.hid.lt _ _ _ _ _ _ _ a2 hi) hs
    · exact Nat.lt_of_lt_of_le (hrh.lt k pk _ rb a2 a3 a4) hs
  · intro i p b rb hp hb ho hrb i' r j own xs v hc hi
    rcases inn hc rb hi with ⟨i0, r0, j0, own0, a1, a2, a3⟩ | ⟨k, pk, a1, a2, a3, a4⟩
    · rcases h3 i p b rb hp hb hrb with h | ⟨i1, p1, b1, c1, c2, c3, c4, c5⟩
      · have := hrh.hid.lt _ _ _ _ _ _ _ a2 hi; omega
      · exact hrh.hid.s1 i1 p1 b1 rb c1 c3 (c4 ho) c2 _ _ _ _ _ _ a2 hi
    · rcases h3 i p b rb hp hb hrb with h | ⟨i1, p1, b1, c1, c2, c3, c4, c5⟩
      · have := hrh.lt k pk _ rb a2 a3 a4; omega
      · exact hrh.sep k i1 pk p1 _ b1 rb a2 a3 rfl c1 c3 (fun e => c5 _ _ _ _ _ _ hc (by rw [a1, e])) a4 c2
  · intro i r j xs v rb hc hi i' q c hq hcq hrb
    rcases inn hc rb hi with ⟨i0, r0, j0, own0, a1, a2, a3⟩ | ⟨k, pk, a1, a2, a3, a4⟩
    · rw [a3 rfl] at a2
      rcases h3 i' q c rb hq hcq hrb with h | ⟨i1, p1, b1, c1, c2, c3, c4, c5⟩
      · have := hrh.hid.lt _ _ _ _ _ _ _ a2 hi; omega
      · exact hrh.hid.s2 _ _ _ _ _ _ a2 hi i1 p1 b1 c1 c3 c2
    · rcases h3 i' q c rb hq hcq hrb with h | ⟨i1, p1, b1, c1, c2, c3, c4, c5⟩
      · have := hrh.lt k pk _ rb a2 a3 a4; omega
      · exact hrh.sep k i1 pk p1 _ b1 rb a2 a3 rfl c1 c3 (fun e => c5 _ _ _ _ _ _ hc (by rw [a1, e])) a4 c2
  · intro i r j xs v rb hc hi i' r' j' own' xs' v' hc' hi'
    rcases inn hc rb hi with ⟨i0, r0, j0, own0, a1, a2, a3⟩ | ⟨k, pk, a1, a2, a3, a4⟩
    · rw [a3 rfl] at a2
      rcases inn hc' rb hi' with ⟨i1, r1, j1, own1, d1, d2, d3⟩ | ⟨k', pk', d1, d2, d3, d4⟩
      · obtain ⟨e1, e2, e3⟩ := hrh.hid.s3 _ _ _ _ _ _ a2 hi _ _ _ _ _ _ d2 hi'
        exact h2 _ _ _ _ _ _ _ _ _ _ _ hc hc' (by rw [a1]; simp) (by rw [a1, d1, e1, e2, e3])
      · exact absurd hi (hrh.hid.s1 k' pk' _ rb d2 d3 rfl d4 _ _ _ _ _ _ a2)
    · rcases inn hc' rb hi' with ⟨i1, r1, j1, own1, d1, d2, d3⟩ | ⟨k', pk', d1, d2, d3, d4⟩
      · exact absurd hi' (hrh.hid.s1 k pk _ rb a2 a3 rfl a4 _ _ _ _ _ _ d2)
      · have hkk : k' = k := by
          rcases Nat.decEq k' k with hne | he
          · exact absurd d4 (hrh.sep k k' pk pk' _ _ rb a2 a3 rfl d2 d3 (fun e => hne e.symm) a4)
          · exact he
        exact h2 _ _ _ _ _ _ _ _ _ _ _ hc hc' (by rw [a1]; simp) (by rw [a1, d1, hkk])
  · rintro rb ⟨i, r, j, xs, v, hc, hi⟩
    rcases inn hc rb hi with ⟨i0, r0, j0, own0, a1, a2, a3⟩ | ⟨k, pk, a1, a2, a3, a4⟩
    · rw [a3 rfl] at a2
      exact .inr ⟨_, _, _, _, _, a2, hi⟩
    · exact .inl ⟨k, pk, _, a2, a3, rfl, a4⟩

theorem evBuildSliceN_sound {H H' : Heap} (hrh : RH ι H w) {t : TypeId} {len : Nat} {parts parts' : List (Nat × Value)} {v : Value} {vc : List Prop} (h : evBuildSliceN P H t len parts = some (v, H', vc)) (hvc : AllP vc)
    (he : parts'.map (·.1) = parts.map (·.1)) (hv : VRs ι (parts.map (·.2)) (parts'.map (·.2))) : Runs P (Instr.buildSlice t len parts'.toArray) ι H w v H' := by
  unfold evBuildSliceN at h
  split at h
  · rename_i el hu
    split at h
    · rename_i i vs hi hvs
      cases hcnd : (Nat.beq vs.length len && Nat.ble (len * i.size) 16777216 && Nat.blt 0 i.size && i.zero.isSome && Nat.beq (i.zero.getD undef).cells.size i.size) with
      | false => simp [hcnd] at h
      | true =>
        simp only [hcnd, cond_true] at h
        simp only [Bool.and_eq_true] at hcnd
        have hlen := Nat.eq_of_beq_eq_true hcnd.1.1.1.1
        have hle := Nat.le_of_ble_eq_true hcnd.1.1.1.2
        have hpos : 0 < i.size := Nat.le_of_ble_eq_true hcnd.1.1.2
        obtain ⟨z, hz⟩ := Option.isSome_iff_exists.1 hcnd.1.2
        have hzs := Nat.eq_of_beq_eq_true hcnd.2
        rw [hz] at hzs h
        simp only [Option.getD_some] at hzs h
        obtain ⟨o1, o2⟩ := inOrder_spec hvs
        have hlp : parts.length = vs.length := by rw [← o1]; simp
        have hlp' : parts'.length = parts.length := by have := congrArg List.length he; simpa using this
        split at h
        · -- no value
          have hp0 : parts' = [] := List.eq_nil_of_length_eq_zero (hlp'.trans (hlp.trans rfl))
          subst hp0
          simp only [List.length_nil] at hlen
          subst hlen
          split at h
          · rename_i ct hct
            cases hc2 : Nat.beq ct.sz i.size with
            | false => simp [hc2] at h
            | true =>
              simp only [hc2, cond_true, Option.some.injEq, Prod.mk.injEq] at h
              obtain ⟨rfl, rfl, rfl⟩ := h
              unfold zerosN at hct
              cases hpl : (allP plain1 (cellsV z) && allP one1 (cellsV z)) with
              | false => simp [hpl] at hct
              | true =>
              simp only [hpl, cond_true, Option.map_eq_some_iff] at hct
              obtain ⟨hs, hhs, rfl⟩ := hct
              obtain ⟨k1, k2⟩ := hid_snocN (q := ⟨some w.heap.size, 0, hs.length, 0⟩) (b := some ⟨true, .nst 0 hs.length (fun _ => hs) []⟩) (w' := w.alloc (.cells #[] el)) hrh (fun rb hr => heap_alloc_lt w _ rb hr) (by simp) (fun rb hrb => by simp at hrb; omega) (by
                rintro r j own xs v ⟨p, c, n', sz, g, o, rb, cs, e, f, h1, h2, h3, h4, h5, _⟩
                simp at h2
                subst h2
                simp only [Cont.nst.injEq] at h4
                omega)
              have hext := Ext.allocG hrh (.nst 0 hs.length (fun _ => hs) []) #[] el 0 (by simp [Cont.rows]) (by simp) (fun r hr => by simp [Cont.rows] at hr) (fun j u hu => by simp at hu) (fun r j hr => by simp [Cont.rows] at hr) rfl k1 fun rb hr => .inl (.inr (k2 rb hr))
              refine ⟨_, _, _, ?_, .slice0 (x := some ⟨w.heap.size, 0, none⟩) (fun _ => by simp), hext⟩
              simp [Instr.buildSlice, run_underlying hu, sizeOf, typeInfo, hi, Instr.fill, newRow, Array.range_zero']
          · cases h
        · rename_i v0
          simp only [List.length_cons, List.length_nil, Nat.zero_add] at hlen
          subst hlen
          split at h
          · rename_i hs k vc1 hhide
            cases hc2 : (Nat.beq hs.length i.size && allP one1 (cellsV v0)) with
            | false => simp [hc2] at h
            | true =>
              simp only [hc2, cond_true, Option.some.injEq, Prod.mk.injEq] at h
              obtain ⟨rfl, rfl, rfl⟩ := h
              simp only [Bool.and_eq_true] at hc2
              have hhl := Nat.eq_of_beq_eq_true hc2.1
              have hone := hc2.2
              obtain ⟨L1, L2, L3, L4⟩ := hideL_spec hhide hvc
              rw [o1] at hv
              obtain ⟨v', hp', hvr⟩ : ∃ v', parts'.map (·.2) = [v'] ∧ VR ι v0 v' := by
                generalize parts'.map (·.2) = l at hv
                cases hv with | cons g gs => cases gs; exact ⟨_, rfl, g⟩
              have hcells := hvr.cells
              have hclen := hcells.length
              have hreal := hcells.ones hone
              have hvsz : v'.cells.toList.length = i.size := by omega
              have hsizes : ∀ v ∈ parts'.map (·.2), v.cells.size = i.size := by
                intro u hu'
                rw [hp'] at hu'
                simp only [List.mem_singleton] at hu'
                subst hu'
                simpa using hvsz
              obtain ⟨r, f1, f2⟩ := fill_rows i.size (parts'.map (·.2)) 0 parts' ((Array.range (1 * i.size)).map (z.cells[· % z.cells.size]!)) rfl
                (fun j hj => by have := o2 j (by omega); rw [he]; simpa using this) hsizes (by simp only [Array.size_map, Array.size_range]; rw [hp']; simp)
              simp only [Nat.zero_mul, List.take_zero, List.nil_append] at f2
              rw [hp'] at f2
              have f3 : r.toList = v'.cells.toList := by simpa using f2
              have hrget : ∀ j : Nat, r[j]? = v'.cells.toList[j]? := fun j => by rw [← f3]; simp
              have hw : ∀ rb : Nat, rb < w.heap.size → (w.alloc (.cells r el)).heap[rb]? = w.heap[rb]? := fun rb hr => heap_alloc_lt w _ rb hr
              have hkl := killO_len H k
              have hil := hrh.len
              -- hidden slices
              have cls : ∀ (i1 r1 j1 : Nat) (own : Bool) (xs : List Nat) (v2 : Value), HidCell (ι ++ [⟨some w.heap.size, 0, hs.length, 1⟩]) (killO H k ++ [some ⟨true, .nst 1 hs.length (fun _ => hs) []⟩]) (w.alloc (.cells r el)) i1 r1 j1 own xs v2 →
                  (i1 < H.length ∧ HidCell ι H w i1 r1 j1 own xs v2) ∨ (i1 = H.length ∧ r1 = 0 ∧ own = true ∧ hs[j1]? = some (HC.r xs) ∧ v'.cells.toList[j1]? = some v2) := by
                rintro i1 r1 j1 own xs v2 ⟨q, c, n', sz', g', o', rb', cs2, e2, f2', h1, h2, h3, h4, h5, h6, h7, h8, h9⟩
                rcases getElem?_snoc h2 with ⟨g2, hi2⟩ | ⟨hi2, g2⟩
                · rcases getElem?_snoc h1 with ⟨g1, _⟩ | ⟨hi1, _⟩
                  · obtain ⟨g2, _⟩ := killO_get g2
                    exact .inl ⟨by omega, ⟨q, c, n', sz', g', o', rb', cs2, e2, f2', g1, g2, h3, h4, h5, h6, h7, by rw [← hw rb' (hrh.lt i1 q c rb' g1 g2 h7)]; exact h8, h9⟩⟩
                  · omega
                · simp only [Option.some.injEq] at g2
                  subst g2
                  simp only [Cont.nst.injEq] at h4
                  obtain ⟨rfl, rfl, rfl, rfl⟩ := h4
                  have hi3 : i1 = ι.length := by omega
                  subst hi3
                  simp at h1
                  subst h1
                  simp only [Option.some.injEq] at h7
                  subst h7
                  rw [heap_alloc_new] at h8
                  simp only [Option.some.injEq, Obj.cells.injEq] at h8
                  obtain ⟨rfl, _⟩ := h8
                  have : r1 = 0 := by omega
                  subst this
                  simp only [Nat.zero_mul, Nat.zero_add] at h9
                  rw [hrget] at h9
                  exact .inr ⟨by omega, rfl, h3.symm, h6, h9⟩
              obtain ⟨k1, k2⟩ := hid_take (ι' := ι ++ [⟨some w.heap.size, 0, hs.length, 1⟩]) (H' := killO H k ++ [some ⟨true, .nst 1 hs.length (fun _ => hs) []⟩]) (w' := w.alloc (.cells r el)) hrh
                (fun i1 r1 j1 => if i1 < H.length then .cell i1 r1 j1 else match (cellsV v0)[j1]? with | some (.slice (some ⟨k0, _, _⟩) _ _) => .blk k0 | _ => .no) (by simp)
                (fun i1 r1 j1 own xs v2 hc => by
                  rcases cls _ _ _ _ _ _ hc with ⟨a1, a2⟩ | ⟨rfl, rfl, rfl, a4, a5⟩
                  · exact .inl ⟨i1, r1, j1, own, by rw [if_pos a1], a2, id, fun rb _ => hw rb⟩
                  · right
                    rcases L2 j1 _ a4 with ⟨s, q, _⟩ | ⟨q, q2⟩ | ⟨k0, xs0, c, q, q2, q3, q4⟩
                    · cases q
                    · cases q
                      obtain ⟨u', hu', hvr'⟩ := hcells.get j1 _ q2
                      rw [a5] at hu'; cases hu'
                      cases hvr'
                      exact .inr ⟨by rw [if_neg (by omega), q2], innOk_nil, fun rb => inner_nil⟩
                    · cases q
                      obtain ⟨u', hu', hvr'⟩ := hcells.get j1 _ q2
                      rw [a5] at hu'; cases hu'
                      exact .inl ⟨k0, c, by rw [if_neg (by omega), q2], rfl, q4, hvr', fun rb _ => hw rb⟩)
                (fun i1 r1 j1 xs v2 i2 r2 j2 own2 xs2 v3 hc hc' hne heq => by
                  rcases cls _ _ _ _ _ _ hc with ⟨a1, a2⟩ | ⟨rfl, rfl, _, a4, a5⟩
                  · rcases cls _ _ _ _ _ _ hc' with ⟨b1, b2⟩ | ⟨rfl, rfl, _, b4, b5⟩
                    · simp only [if_pos a1, if_pos b1, Src.cell.injEq] at heq; exact heq
                    · simp only [if_pos a1, if_neg (Nat.lt_irrefl _)] at heq
                      split at heq <;> cases heq
                  · rcases cls _ _ _ _ _ _ hc' with ⟨b1, b2⟩ | ⟨rfl, rfl, _, b4, b5⟩
                    · simp only [if_pos b1, if_neg (Nat.lt_irrefl _)] at heq
                      split at heq <;> cases heq
                    · simp only [if_neg (Nat.lt_irrefl _)] at heq hne
                      refine ⟨rfl, rfl, ?_⟩
                      split at hne
                      · rename_i k0 _ _ _ _ h1
                        split at heq
                        · rename_i k3 _ _ _ _ h3
                          exact L3 _ _ _ _ _ _ _ _ h3 h1
                        · rename_i hno
                          rw [h1] at heq; cases heq
                      · exact absurd rfl hne)
                (fun i1 p b rb hp hb hrb => by
                  rcases getElem?_snoc hp with ⟨g1, hi1⟩ | ⟨hi1, rfl⟩
                  · rcases getElem?_snoc hb with ⟨g2, _⟩ | ⟨hi2, _⟩
                    · obtain ⟨g2, hk0⟩ := killO_get g2
                      refine .inr ⟨i1, p, b, g1, hrb, g2, id, fun i2 r2 j2 own xs v2 hc heq => ?_⟩
                      rcases cls _ _ _ _ _ _ hc with ⟨b1, b2⟩ | ⟨rfl, rfl, _, b4, b5⟩
                      · rw [if_pos b1] at heq; cases heq
                      · rw [if_neg (Nat.lt_irrefl _)] at heq
                        rcases L2 j2 _ b4 with ⟨s, q, _⟩ | ⟨q, q2⟩ | ⟨k0, xs0, c, q, q2, q3, q4⟩
                        · cases q
                        · rw [q2] at heq; cases heq
                        · rw [q2] at heq
                          simp only [Src.blk.injEq] at heq
                          exact hk0 (by rw [q3, heq])
                    · omega
                  · simp only [Option.some.injEq] at hrb
                    exact .inl (by omega))
              have hrh2 := RH.allocG (hrh.killO k) (.nst 1 hs.length (fun _ => hs) []) r el 1 (by simp [Cont.rows])
                (by have h0 := congrArg List.length f3; have h9 : v'.cells.toList.length = v'.cells.size := by simp
                    simp only [Array.length_toList] at h0 h9; simp only [Cont.sz]; simp only [Array.length_toList] at hvsz; omega)
                (fun r1 hr1 => by simp [Cont.row, Cont.sz])
                (fun j u hu' => by rw [hrget] at hu'; exact hreal u (List.mem_of_getElem? hu'))
                (fun r1 j1 hr1 hj1 => by
                  simp only [Cont.rows] at hr1
                  simp only [Cont.sz] at hj1
                  obtain rfl : r1 = 0 := by omega
                  have hj3 : j1 < (cellsV v0).length := by omega
                  obtain ⟨u', hu', hvr'⟩ := hcells.get j1 _ (List.getElem?_eq_getElem hj3)
                  refine ⟨u', (hs[j1]).v, by rw [Nat.zero_mul, Nat.zero_add, hrget]; exact hu', by simp [Cont.row, hj1], ?_⟩
                  rcases L2 j1 _ (List.getElem?_eq_getElem hj1) with ⟨s, e1, e2⟩ | ⟨e1, e2⟩ | ⟨k0, xs, c, e1, e2, _⟩
                  · rw [List.getElem?_eq_getElem hj3, Option.some.injEq] at e2
                    rw [e1]; rw [e2] at hvr'; exact hvr'
                  · rw [List.getElem?_eq_getElem hj3, Option.some.injEq] at e2
                    rw [e1]; rw [e2] at hvr'; cases hvr'; exact .hid _ _ _
                  · rw [List.getElem?_eq_getElem hj3, Option.some.injEq] at e2
                    rw [e1]; rw [e2] at hvr'; generalize xs.length = l at hvr'; cases hvr' <;> exact .hid _ _ _)
                rfl k1
              refine ⟨_, .slice (some ⟨w.heap.size, 0, none⟩) 1 1, _, ?_, ?_, ⟨⟨_, rfl⟩, hrh2, ⟨rfl, rfl, rfl, by simp, fun rb hr _ => hw rb hr⟩, ?_⟩⟩
              · have hng : ¬ (16777216 < 1 * i.size) := Nat.not_lt.2 hle
                have hn0 : ¬ (1 * i.size = 0) := by omega
                simp only [Nat.one_mul] at hng hn0 f1
                have hi0 : ¬ i.size = 0 := hn0
                simp [Instr.buildSlice, run_underlying hu, sizeOf, typeInfo, zeroValue, hi, hz, newRow, hng, hi0]
                rw [show (Instr.fill (fun i_1 => some (i_1 * i.size, i.size)) (Array.map (fun x => z.cells[x % z.cells.size]!) (Array.range i.size)) parts') = some r from f1]
                rfl
              · have := VR.slice (ι := ι ++ [⟨some w.heap.size, 0, hs.length, 1⟩]) (b := H.length) (i := 0) (l := 1) (c := 1) (c' := 1) (getElem?_new _ _ _ hrh.len) rfl (by omega) (by simp) (by omega)
                simpa [Cont.sz] using this
              · rintro rb (⟨i1, p, b, hp, hb, ho, hrb⟩ | ho2)
                · rcases getElem?_snoc hp with ⟨g1, hi1⟩ | ⟨hi1, rfl⟩
                  · rcases getElem?_snoc hb with ⟨g2, _⟩ | ⟨hi2, _⟩
                    · exact .inl (.inl ⟨i1, p, b, g1, (killO_get g2).1, ho, hrb⟩)
                    · omega
                  · simp only [Option.some.injEq] at hrb
                    exact .inr (by omega)
                · exact .inl (k2 rb ho2)
          · cases h
        · cases h
    · cases h
  · cases h


/-! ### Rows appended -/

/-- A slice of rows that hold slices, as it lies in the real world. -/
theorem srcN {H : Heap} (hrh : RH ι H w) {bx n cc m sz : Nat} {gx : Nat → List HC} {ox : List (Nat × Nat)} {x' : Value} (hH : H[bx]? = some (some ⟨true, .nst m sz gx ox⟩)) (hx : VR ι (.slice (some ⟨bx, 0, none⟩) n cc) x') (hn : n = m) (hpos : 0 < sz) :
    ∃ (xb : Option Addr) (xc : Nat) (news : List Value), x' = .slice xb n xc ∧ news.length = n * sz ∧
      (∀ w2 : World, w2.heap = w.heap → (Builtin.firstCells sz n x').run P w2 = .ok ⟨news⟩ w2) ∧ (∀ v ∈ news, v.oneCell' = true) ∧
      ∀ r j, r < n → j < sz → ∃ v u p rb cs e f, news[r * sz + j]? = some v ∧ ((gx r).map HC.v)[j]? = some u ∧ VR ι u v ∧ ι[bx]? = some p ∧ p.blk = some rb ∧ w.heap[rb]? = some (.cells cs e f) ∧ cs[p.base + r * p.sz + j]? = some v := by
  subst hn
  cases hx with
  | slice hp hb hl hcap h0 =>
    rename_i c' p rb
    have hbk := hrh.blk bx p _ hp hH
    have hsz : p.sz = sz := hbk.sz
    have hcell : ∀ k, k < n * sz → ∃ v u cs e f, w.cell? ⟨rb, p.base + k, none⟩ = some v ∧ ((gx (k / sz)).map HC.v)[k % sz]? = some u ∧ VR ι u v ∧ v.oneCell' = true ∧ w.heap[rb]? = some (.cells cs e f) ∧ cs[p.base + k]? = some v := by
      intro k hk
      have hd : k / sz < n := (Nat.div_lt_iff_lt_mul hpos).2 hk
      obtain ⟨rb', cs, e, f, v, u, h1, h2, h3, h4, h5, h6⟩ := hbk.cells (k / sz) (k % sz) hd (Nat.mod_lt _ hpos)
      rw [hb] at h1; cases h1
      have e1 : p.base + k / sz * p.sz + k % sz = p.base + k := by
        rw [hsz]
        have := Nat.div_add_mod k sz
        rw [Nat.mul_comm] at this
        omega
      rw [e1] at h3
      exact ⟨v, u, cs, e, f, by simp [World.cell?, h2, h3], h4, h5, h6, h2, h3⟩
    have hcw : ∀ (w2 : World) (a : Addr), w2.heap = w.heap → w2.cell? a = w.cell? a := by
      intro w2 a h; simp [World.cell?, h]
    refine ⟨_, _, (List.range (n * sz)).map fun i => (w.cell? ⟨rb, p.base + i, none⟩).getD undef, rfl, by simp, fun w2 hw2 => ?_, fun v hv => ?_, fun r j hr hj => ?_⟩
    · have := run_loadCells (P := P) w2 ⟨rb, p.base, none⟩ (n * sz) (fun i => (w.cell? ⟨rb, p.base + i, none⟩).getD undef) (fun k hk => by
        obtain ⟨v, u, cs, e, f, h1, _⟩ := hcell k hk
        rw [add_eq, hcw w2 _ hw2, h1]; rfl)
      have e2 : (⟨rb, p.base + 0 * p.sz, none⟩ : Addr) = ⟨rb, p.base, none⟩ := by simp
      rw [e2]
      exact run_firstCells_load _ _ _ _ _ _ _ (by simpa using this)
    · simp only [List.mem_map, List.mem_range] at hv
      obtain ⟨k, hk, rfl⟩ := hv
      obtain ⟨v', u', cs, e, f, h1, _, _, h4, _⟩ := hcell k hk
      rw [h1]; exact h4
    · have hk : r * sz + j < n * sz := by
        have := Nat.mul_le_mul_right sz (show r + 1 ≤ n from hr)
        rw [Nat.add_mul] at this; omega
      obtain ⟨v, u, cs, e, f, h1, h2, h3, _, h5, h6⟩ := hcell _ hk
      have e1 : (r * sz + j) / sz = r := by rw [Nat.mul_comm, Nat.mul_add_div hpos, Nat.div_eq_of_lt hj]; omega
      have e2 : (r * sz + j) % sz = j := by rw [Nat.mul_comm, Nat.mul_add_mod, Nat.mod_eq_of_lt hj]
      rw [e1, e2] at h2
      exact ⟨v, u, p, rb, cs, e, f, by simp [hk, h1], h2, h3, hp, hb, h5, by rw [hsz, Nat.add_assoc]; exact h6⟩
  | slice0 => exact ⟨_, _, [], rfl, by simp, fun w2 _ => run_firstCells_zero _ _ _ _ _, by simp, fun i j hi => by omega⟩

/-- Both parts' rows, put together. -/
def appN (m' : Nat) (g gx : Nat → List HC) : Nat → List HC := fun i => bif Nat.blt i m' then g i else gx (i - m')

theorem appN_lt {m' : Nat} {g gx : Nat → List HC} {i : Nat} (h : i < m') : appN m' g gx i = g i := by
  have : Nat.blt i m' = true := Nat.ble_eq_true_of_le h
  simp [appN, this]
theorem appN_ge {m' : Nat} {g gx : Nat → List HC} {i : Nat} (h : ¬ i < m') : appN m' g gx i = gx (i - m') := by
  have : Nat.blt i m' = false := by
    cases hb : Nat.blt i m' with
    | false => rfl
    | true => exact absurd (Nat.le_of_ble_eq_true hb) h
  simp [appN, this]

/-- Behind an append: the memory, where the new block is the last one and what it took over is gone. 'old r j': the cell from which row 'r' comes. -/
theorem appN_hid {ι' : List Place} {H H1 : Heap} {w' : World} {q : Place} {n sz : Nat} {gg : Nat → List HC} (hrh : RH ι H w) (hi' : ι' = ι ++ [q]) (hl : H1.length = H.length) (hsub : ∀ (i : Nat) (c : Blk), H1[i]? = some (some c) → H[i]? = some (some c))
    (org : Nat → Nat × Nat) (hgone : ∀ r, r < n → ∀ c, H1[(org r).1]? ≠ some (some c)) (horg : ∀ r r', r < n → r' < n → org r = org r' → r = r') (hs : w.heap.size ≤ w'.heap.size)
    (hout : ∀ (i : Nat) (p : Place) (c : Blk) (rb : Nat), ι[i]? = some p → H1[i]? = some (some c) → p.blk = some rb → w'.heap[rb]? = w.heap[rb]?)
    (hin : ∀ i r j own xs v rb, HidCell ι H w i r j own xs v → Inner v rb → w'.heap[rb]? = w.heap[rb]?)
    (hnew : ∀ r j xs v rb cs e f, r < n → (gg r)[j]? = some (HC.r xs) → q.blk = some rb → w'.heap[rb]? = some (.cells cs e f) → cs[q.base + r * q.sz + j]? = some v → HidCell ι H w (org r).1 (org r).2 j true xs v)
    (hq : ∀ rb, q.blk = some rb → w.heap.size ≤ rb ∨ ∃ (i0 : Nat) (p0 : Place) (b0 : Blk), ι[i0]? = some p0 ∧ p0.blk = some rb ∧ H[i0]? = some (some b0) ∧ b0.own = true) :
    HidOk ι' (H1 ++ [some ⟨true, .nst n sz gg []⟩]) w' ∧ ∀ rb, Own2 ι' (H1 ++ [some ⟨true, .nst n sz gg []⟩]) w' rb → Own ι H w rb := by
  subst hi'
  have hil := hrh.len
  have cls : ∀ (i r j : Nat) (own : Bool) (xs : List Nat) (v : Value), HidCell (ι ++ [q]) (H1 ++ [some ⟨true, .nst n sz gg []⟩]) w' i r j own xs v →
      (i < H.length ∧ HidCell ι H w i r j own xs v ∧ ∃ c, H1[i]? = some (some c)) ∨ (i = H.length ∧ r < n ∧ HidCell ι H w (org r).1 (org r).2 j true xs v) := by
    rintro i r j own xs v ⟨p, c, n', sz', g', o', rb, cs, e, f, h1, h2, h3, h4, h5, h6, h7, h8, h9⟩
    rcases getElem?_snoc h2 with ⟨g2, hi2⟩ | ⟨hi2, g2⟩
    · rcases getElem?_snoc h1 with ⟨g1, _⟩ | ⟨hi1, _⟩
      · exact .inl ⟨by omega, ⟨p, c, n', sz', g', o', rb, cs, e, f, g1, hsub i c g2, h3, h4, h5, h6, h7, by rw [← hout i p c rb g1 g2 h7]; exact h8, h9⟩, c, g2⟩
      · omega
    · simp only [Option.some.injEq] at g2
      subst g2
      simp only [Cont.nst.injEq] at h4
      obtain ⟨rfl, rfl, rfl, rfl⟩ := h4
      have hi3 : i = ι.length := by omega
      subst hi3
      simp at h1
      subst h1
      exact .inr ⟨hil, h5, hnew r j xs v rb cs e f h5 h6 h7 h8 h9⟩
  refine hid_take hrh (fun i r j => if i < H.length then .cell i r j else .cell (org r).1 (org r).2 j) hs ?_ ?_ ?_
  · intro i r j own xs v hc
    rcases cls _ _ _ _ _ _ hc with ⟨a1, a2, _⟩ | ⟨rfl, a1, a2⟩
    · exact .inl ⟨i, r, j, own, by rw [if_pos a1], a2, id, fun rb hi _ => hin _ _ _ _ _ _ rb a2 hi⟩
    · exact .inl ⟨_, _, _, true, by rw [if_neg (Nat.lt_irrefl _)], a2, fun _ => rfl, fun rb hi _ => hin _ _ _ _ _ _ rb a2 hi⟩
  · intro i r j xs v i' r' j' own' xs' v' hc hc' _ heq
    rcases cls _ _ _ _ _ _ hc with ⟨a1, a2, c, a3⟩ | ⟨rfl, a1, a2⟩
    · rcases cls _ _ _ _ _ _ hc' with ⟨b1, b2, _⟩ | ⟨rfl, b1, b2⟩
      · simp only [if_pos a1, if_pos b1, Src.cell.injEq] at heq; exact heq
      · simp only [if_pos a1, if_neg (Nat.lt_irrefl _), Src.cell.injEq] at heq
        rw [← heq.1] at a3
        exact absurd a3 (hgone r' b1 c)
    · rcases cls _ _ _ _ _ _ hc' with ⟨b1, b2, c, b3⟩ | ⟨rfl, b1, b2⟩
      · simp only [if_pos b1, if_neg (Nat.lt_irrefl _), Src.cell.injEq] at heq
        rw [heq.1] at b3
        exact absurd b3 (hgone r a1 c)
      · simp only [if_neg (Nat.lt_irrefl _), Src.cell.injEq] at heq
        exact ⟨rfl, horg _ _ b1 a1 (Prod.ext heq.1 heq.2.1), heq.2.2⟩
  · intro i p b rb hp hb hrb
    have hns : ∀ i r j own xs v, HidCell (ι ++ [q]) (H1 ++ [some ⟨true, .nst n sz gg []⟩]) w' i r j own xs v → ∀ i0, (if i < H.length then Src.cell i r j else .cell (org r).1 (org r).2 j) ≠ .blk i0 := by
      intro i r j own xs v _ i0; split <;> simp
    rcases getElem?_snoc hp with ⟨g1, hi1⟩ | ⟨hi1, rfl⟩
    · rcases getElem?_snoc hb with ⟨g2, _⟩ | ⟨hi2, _⟩
      · exact .inr ⟨i, p, b, g1, hrb, hsub i b g2, id, fun i r j own xs v hc => hns i r j own xs v hc _⟩
      · omega
    · rcases hq rb hrb with h | ⟨i0, p0, b0, c1, c2, c3, c4⟩
      · exact .inl h
      · exact .inr ⟨i0, p0, b0, c1, c2, c3, fun _ => c4, fun i r j own xs v hc => hns i r j own xs v hc _⟩

theorem evAppendN_sound {H H' : Heap} (hrh : RH ι H w) {t ty : TypeId} {s x s' x' v : Value} {vc : List Prop} (h : evAppendN P H t s x = some (v, H', vc)) (hv : AllP vc) (hs : VR ι s s') (hx : VR ι x x') :
    Runs P (Builtin.append_ #[t, t] ty #[s', x']) ι H w v H' := by
  unfold evAppendN at h
  split at h
  · rename_i el bx n cc hu
    split at h
    · rename_i i m sz gx ox hi hbx
      rw [blkAt_eq] at hbx
      cases hcnd : (Nat.beq sz i.size && Nat.blt 0 i.size && Nat.ble i.bytes 1024 && i.zero.isSome && Nat.beq (i.zero.getD undef).cells.size i.size && allP one1 (cellsV (i.zero.getD undef))) with
      | false => simp [hcnd] at h
      | true =>
        simp only [hcnd, cond_true] at h
        simp only [Bool.and_eq_true] at hcnd
        obtain ⟨⟨⟨⟨⟨hsz, hpos⟩, hby⟩, hzs⟩, hzz⟩, hzo⟩ := hcnd
        have hsz := Nat.eq_of_beq_eq_true hsz
        subst hsz
        have hpos : 0 < i.size := Nat.le_of_ble_eq_true hpos
        have hby := Nat.le_of_ble_eq_true hby
        obtain ⟨z, hz⟩ := Option.isSome_iff_exists.1 hzs
        rw [hz] at hzz hzo
        have hzz : z.cells.size = i.size := Nat.eq_of_beq_eq_true hzz
        have hzo := one1_cells hzo
        have hil := hrh.len
        have hd : Drawn w w.drew := ⟨1, rfl⟩
        have hrd := hrh.drawn hd
        obtain ⟨px, hpx⟩ : ∃ p, ι[bx]? = some p := ⟨_, List.getElem?_eq_getElem (by rw [hil]; exact some_lt hbx)⟩
        have hbkx := hrh.blk bx px _ hpx hbx
        have hglx : ∀ r, r < m → (gx r).length = i.size := fun r hr => by simpa [Cont.row, Cont.sz] using hbkx.len r hr
        -- a slice of no element
        have fresh0 : ∀ (base : Option Addr), s' = .slice base 0 0 → n = m → n ≤ 1073741824 → ∀ H1 : Heap, H1.length = H.length → (∀ (i : Nat) (c : Blk), H1[i]? = some (some c) → H[i]? = some (some c)) → (∀ c, H1[bx]? ≠ some (some c)) → RH ι H1 w →
            Runs P (Builtin.append_ #[t, t] ty #[s', x']) ι H w (.slice (some ⟨H.length, 0, none⟩) n 1) (H1 ++ [some ⟨true, .nst m i.size gx []⟩]) := by
          intro base hb hnm hn H1 hl1 hsub hgone hrh1
          subst hb
          obtain ⟨xb, xc, news, rfl, r1, r2, r3, r4⟩ := srcN (P := P) hrh hbx hx hnm hpos
          have hcellx : ∀ r j xs v, r < m → (gx r)[j]? = some (HC.r xs) → news[r * i.size + j]? = some v → HidCell ι H w bx r j true xs v := by
            intro r j xs v hr hj hv'
            have hjs : j < i.size := by have := some_lt hj; rw [hglx r hr] at this; exact this
            obtain ⟨v2, u, p, rb, cs, e, f, a1, a2, a3, a4, a5, a6, a7⟩ := r4 r j (by omega) hjs
            rw [hv'] at a1; cases a1
            rw [hpx] at a4; cases a4
            exact ⟨px, _, m, i.size, gx, ox, rb, cs, e, f, hpx, hbx, rfl, rfl, hr, hj, a5, a6, a7⟩
          rcases Nat.eq_zero_or_pos n with h0 | h0
          · subst h0
            obtain rfl : m = 0 := hnm.symm
            obtain ⟨k1, k2⟩ := appN_hid (w' := w) (q := ⟨none, 0, i.size, 0⟩) (n := 0) (sz := i.size) (gg := gx) hrh rfl hl1 hsub (fun r => (bx, r)) (fun r hr => by omega) (fun r r' hr => by omega) (Nat.le_refl _) (fun _ _ _ _ _ _ _ => rfl) (fun _ _ _ _ _ _ _ _ _ => rfl) (fun r j xs v rb cs e f hr => by omega) (fun rb hrb => by cases hrb)
            have hrhE : RH (ι ++ [⟨none, 0, i.size, 0⟩]) (H1 ++ [some ⟨true, .nst 0 i.size gx []⟩]) w := by
              refine ⟨by simp [hil, hl1], ?_, ?_, ?_, k1⟩
              · intro i1 p b hp hb
                rcases getElem?_snoc hp with ⟨hp, hi1⟩ | ⟨hi1, rfl⟩
                · rcases getElem?_snoc hb with ⟨hb, _⟩ | ⟨hi', _⟩
                  · exact (hrh1.blk i1 p b hp hb).of_heap (fun b p hb => getElem?_snoc_lt hb) fun _ _ _ => rfl
                  · omega
                · rcases getElem?_snoc hb with ⟨hb, hi'⟩ | ⟨_, hb⟩
                  · omega
                  · simp at hb; subst hb
                    exact ⟨rfl, fun r hr' => by simp [Cont.rows] at hr', fun r j hr' _ => by simp [Cont.rows] at hr', fun _ rb hrb => (by cases hrb), fun r k hk => (by cases hk)⟩
              · intro i1 j p q b c' rb hp hb ho hq hc' hij hrb
                rcases getElem?_snoc hp with ⟨hp, hi1⟩ | ⟨hi1, rfl⟩
                · rcases getElem?_snoc hb with ⟨hb, _⟩ | ⟨hi', _⟩
                  · rcases getElem?_snoc hq with ⟨hq, hj⟩ | ⟨hj, rfl⟩
                    · rcases getElem?_snoc hc' with ⟨hc', _⟩ | ⟨hj', _⟩
                      · exact hrh1.sep i1 j p q b c' rb hp hb ho hq hc' hij hrb
                      · omega
                    · simp
                  · omega
                · cases hrb
              · intro i1 p b rb hp hb hrb
                rcases getElem?_snoc hp with ⟨hp, hi1⟩ | ⟨hi1, rfl⟩
                · rcases getElem?_snoc hb with ⟨hb, _⟩ | ⟨hi', _⟩
                  · exact hrh1.lt i1 p b rb hp hb hrb
                  · omega
                · cases hrb
            refine ⟨_, _, _, run_append_none hu hi base xb 0 0 xc (Nat.le_refl 0), .slice0 (fun h => absurd h (by decide)), ⟨⟨_, rfl⟩, hrhE, Fr.refl _ _, ?_⟩⟩
            rintro rb (⟨i1, p, b, hp, hb, ho, hrb⟩ | ho2)
            · rcases getElem?_snoc hp with ⟨g1, hi1⟩ | ⟨hi1, rfl⟩
              · rcases getElem?_snoc hb with ⟨g2, _⟩ | ⟨hi2, _⟩
                · exact .inl (.inl ⟨i1, p, b, g1, hsub _ _ g2, ho, hrb⟩)
                · omega
              · cases hrb
            · exact .inl (k2 rb ho2)
          · have hr := run_append_more (P := P) (w := w) (ty := ty) hu hi hz base 0 0 (.slice xb n xc) xb n xc rfl news [] (r2 w.drew rfl) (run_firstCells_zero _ _ _ _ _) (by omega) (by omega) hby
            rw [Nat.zero_add] at hr
            have hge := grownCap_ge w n 0 el
            generalize hcells : ([] ++ news ++ (Builtin.zeroCells z.cells (grownCap w n 0 el - n)).toList).toArray = cs' at hr
            have hget : ∀ k : Nat, k < n * i.size → cs'[k]? = news[k]? := by
              intro k hk
              rw [← hcells, List.getElem?_toArray, List.nil_append, List.getElem?_append_left (by omega)]
            have hw : ∀ rb : Nat, rb < w.heap.size → (w.drew.alloc (.cells cs' el)).heap[rb]? = w.heap[rb]? := fun rb hr => heap_alloc_lt w.drew _ rb hr
            obtain ⟨k1, k2⟩ := appN_hid (w' := w.drew.alloc (.cells cs' el)) (q := ⟨some w.heap.size, 0, i.size, grownCap w n 0 el⟩) (n := m) (sz := i.size) (gg := gx) hrh rfl hl1 hsub (fun r => (bx, r)) (fun r _ c => hgone c) (fun r r' _ _ e => by simpa using e) (by show w.heap.size ≤ (w.heap.push _).size; simp)
              (fun i1 p c rb h1 h2 h3 => hw rb (hrh.lt i1 p c rb h1 (hsub _ _ h2) h3)) (fun i1 r j own xs v rb h1 h2 => hw rb (hrh.hid.lt _ _ _ _ _ _ _ h1 h2))
              (fun r j xs v rb cs e f hr' hj hb1 hb2 hb3 => by
                simp only [Option.some.injEq] at hb1
                subst hb1
                have hb2' : (w.drew.alloc (.cells cs' el)).heap[w.drew.heap.size]? = some (.cells cs e f) := hb2
                rw [heap_alloc_new] at hb2'
                simp only [Option.some.injEq, Obj.cells.injEq] at hb2'
                obtain ⟨rfl, _⟩ := hb2'
                have hjs : j < i.size := by have := some_lt hj; rw [hglx r hr'] at this; exact this
                simp only [Nat.zero_add] at hb3
                rw [hget _ (by have := Nat.mul_le_mul_right i.size (show r + 1 ≤ n by omega); rw [Nat.add_mul] at this; omega)] at hb3
                exact hcellx r j xs v hr' hj hb3) (fun rb hrb => by simp at hrb; exact .inl (by omega))
            have hrh2 := RH.allocG (hrh1.drawn hd) (.nst m i.size gx []) cs' el (grownCap w n 0 el) (by simp only [Cont.rows]; omega)
              (by rw [← hcells]; simp only [List.size_toArray, List.length_append, r1, List.length_nil, Array.length_toList, size_zeroCells, hzz, Cont.sz, ← Nat.add_mul, Nat.zero_add]; congr 1; omega)
              (fun r hr' => by simp only [Cont.row, List.length_map, Cont.sz]; exact hglx r hr')
              (fun j u hu' => by
                rw [← hcells, List.getElem?_toArray] at hu'
                have hm := List.mem_of_getElem? hu'
                simp only [List.mem_append, List.not_mem_nil, false_or] at hm
                rcases hm with hm | hm
                · exact r3 u hm
                · exact zeroCells_one hzo _ u hm)
              (fun r j hr' hj => by
                simp only [Cont.rows] at hr'
                simp only [Cont.sz] at hj
                obtain ⟨v2, u, p, rb, cs, e, f, a1, a2, a3, _⟩ := r4 r j (by omega) hj
                exact ⟨v2, u, by simp only [Cont.sz]; rw [hget _ (by have := Nat.mul_le_mul_right i.size (show r + 1 ≤ n by omega); rw [Nat.add_mul] at this; omega)]; exact a1, a2, a3⟩)
              rfl k1
            refine ⟨_, _, _, hr, ?_, ⟨⟨_, rfl⟩, hrh2, ⟨rfl, rfl, rfl, (by show w.heap.size ≤ (w.heap.push _).size; simp), fun rb hr' _ => hw rb hr'⟩, ?_⟩⟩
            · have := VR.slice (ι := ι ++ [⟨some w.heap.size, 0, i.size, grownCap w n 0 el⟩]) (b := H.length) (i := 0) (l := n) (c := 1) (c' := grownCap w n 0 el) (getElem?_new _ _ _ hrh.len) rfl (by omega) (by simp) (by omega)
              simpa [Cont.sz] using this
            · rintro rb (⟨i1, p, b, hp, hb, ho, hrb⟩ | ho2)
              · rcases getElem?_snoc hp with ⟨g1, hi1⟩ | ⟨hi1, rfl⟩
                · rcases getElem?_snoc hb with ⟨g2, _⟩ | ⟨hi2, _⟩
                  · exact .inl (.inl ⟨i1, p, b, g1, hsub _ _ g2, ho, hrb⟩)
                  · omega
                · simp at hrb; exact .inr (by omega)
              · exact .inl (k2 rb ho2)
        have hkillx : ∀ (H0 : Heap), (∀ c, (H0.set bx none)[bx]? ≠ some (some c)) := by
          intro H0 c e
          rw [List.getElem?_set] at e
          rw [if_pos rfl] at e
          split at e <;> cases e
        have hset : ∀ (H0 : Heap) (b : Nat) (i : Nat) (c : Blk), (H0.set b none)[i]? = some (some c) → H0[i]? = some (some c) ∧ i ≠ b := by
          intro H0 b i c e
          rw [List.getElem?_set] at e
          split at e
          · split at e <;> cases e
          · rename_i hne; exact ⟨e, fun e' => hne e'.symm⟩
        split at h
        · simp only [Option.some.injEq, Prod.mk.injEq] at h
          obtain ⟨rfl, rfl, rfl⟩ := h
          cases hs
          rw [setAt_eq]
          exact fresh0 none rfl hv.1 hv.2.1 _ (by simp) (fun i c e => (hset _ _ i c e).1) (hkillx H) (Ext.kill hrh bx).rh
        · rename_i b l c0
          split at h
          · rename_i m' sz' g o hb
            rw [blkAt_eq] at hb
            cases hc2 : (Nat.beq sz' i.size && !Nat.beq b bx) with
            | false => simp [hc2] at h
            | true =>
              simp only [hc2, cond_true, Option.some.injEq, Prod.mk.injEq] at h
              obtain ⟨rfl, rfl, rfl⟩ := h
              simp only [Bool.and_eq_true, Bool.not_eq_true'] at hc2
              have hsz' := Nat.eq_of_beq_eq_true hc2.1
              subst hsz'
              have hbne : b ≠ bx := fun e => by subst e; simp at hc2
              obtain ⟨hnm, hlm, hle, _⟩ := hv
              rw [setAt_eq, setAt_eq]
              have hrk : RH ι ((H.set b none).set bx none) w := (Ext.kill (Ext.kill hrh b).rh bx).rh
              have hsub2 : ∀ (i : Nat) (c : Blk), ((H.set b none).set bx none)[i]? = some (some c) → H[i]? = some (some c) := fun i c e => (hset _ _ i c (hset _ _ i c e).1).1
              obtain ⟨pb, hpb⟩ : ∃ p, ι[b]? = some p := ⟨_, List.getElem?_eq_getElem (by rw [hil]; exact some_lt hb)⟩
              have hbkb := hrh.blk b pb _ hpb hb
              have hglb : ∀ r, r < m' → (g r).length = i.size := fun r hr => by simpa [Cont.row, Cont.sz] using hbkb.len r hr
              obtain ⟨xb, xc, news, hxe, r1, r2, r3, r4⟩ := srcN (P := P) hrh hbx hx hnm hpos
              obtain ⟨sb, sc, olds, hse, q1, q2, q3, q4⟩ := srcN (P := P) hrh hb hs hlm hpos
              have hgl : ∀ r, r < m' + m → (appN m' g gx r).length = i.size := by
                intro r hr
                by_cases h : r < m'
                · rw [appN_lt h]; exact hglb r h
                · rw [appN_ge h]; exact hglx _ (by omega)
              -- the real cells of both, one behind the other
              have both : ∀ r j, r < m' + m → j < i.size → ∃ v2 u, (olds ++ news)[r * i.size + j]? = some v2 ∧ ((appN m' g gx r).map HC.v)[j]? = some u ∧ VR ι u v2 := by
                intro r j hr hj
                by_cases h : r < m'
                · obtain ⟨v2, u, p, rb, cs, e, f, a1, a2, a3, _⟩ := q4 r j (by omega) hj
                  exact ⟨v2, u, by rw [List.getElem?_append_left (some_lt a1)]; exact a1, by rw [appN_lt h]; exact a2, a3⟩
                · obtain ⟨v2, u, p, rb, cs, e, f, a1, a2, a3, _⟩ := r4 (r - m') j (by omega) hj
                  refine ⟨v2, u, ?_, by rw [appN_ge h]; exact a2, a3⟩
                  have e2 : r * i.size + j = olds.length + ((r - m') * i.size + j) := by
                    rw [q1, ← Nat.add_assoc, ← Nat.add_mul]; congr 2; omega
                  rw [e2, List.getElem?_append_right (by omega)]
                  simpa using a1
              have cell : ∀ r j xs v2, r < m' + m → (appN m' g gx r)[j]? = some (HC.r xs) → (olds ++ news)[r * i.size + j]? = some v2 → HidCell ι H w (if r < m' then (b, r) else (bx, r - m')).1 (if r < m' then (b, r) else (bx, r - m')).2 j true xs v2 := by
                intro r j xs v2 hr hj hv2
                have hjs : j < i.size := by have := some_lt hj; rw [hgl r hr] at this; exact this
                by_cases h : r < m'
                · simp only [if_pos h]
                  rw [appN_lt h] at hj
                  obtain ⟨v3, u, p, rb, cs, e, f, a1, a2, a3, a4, a5, a6, a7⟩ := q4 r j (by omega) hjs
                  rw [List.getElem?_append_left (some_lt a1), a1] at hv2; cases hv2
                  rw [hpb] at a4; cases a4
                  exact ⟨pb, _, m', i.size, g, o, rb, cs, e, f, hpb, hb, rfl, rfl, h, hj, a5, a6, a7⟩
                · simp only [if_neg h]
                  rw [appN_ge h] at hj
                  obtain ⟨v3, u, p, rb, cs, e, f, a1, a2, a3, a4, a5, a6, a7⟩ := r4 (r - m') j (by omega) hjs
                  have e2 : r * i.size + j = olds.length + ((r - m') * i.size + j) := by
                    rw [q1, ← Nat.add_assoc, ← Nat.add_mul]; congr 2; omega
                  rw [e2, List.getElem?_append_right (by omega)] at hv2
                  simp only [Nat.add_sub_cancel_left] at hv2
                  rw [a1] at hv2; cases hv2
                  rw [hpx] at a4; cases a4
                  exact ⟨px, _, m, i.size, gx, ox, rb, cs, e, f, hpx, hbx, rfl, rfl, by omega, hj, a5, a6, a7⟩
              have horg : ∀ r r' : Nat, r < m' + m → r' < m' + m → (if r < m' then (b, r) else (bx, r - m')) = (if r' < m' then (b, r') else (bx, r' - m')) → r = r' := by
                intro r r' hr hr' e
                by_cases h : r < m'
                · by_cases h' : r' < m'
                  · simp only [if_pos h, if_pos h', Prod.mk.injEq] at e; exact e.2
                  · simp only [if_pos h, if_neg h', Prod.mk.injEq] at e; exact absurd e.1 hbne
                · by_cases h' : r' < m'
                  · simp only [if_neg h, if_pos h', Prod.mk.injEq] at e; exact absurd e.1.symm hbne
                  · simp only [if_neg h, if_neg h', Prod.mk.injEq] at e; omega
              have hgone2 : ∀ r, r < m' + m → ∀ c, ((H.set b none).set bx none)[(if r < m' then (b, r) else (bx, r - m')).1]? ≠ some (some c) := by
                intro r hr c e
                split at e
                · exact (hset _ _ _ c (hset _ _ _ c e).1).2 rfl
                · exact (hset _ _ _ c e).2 rfl
              have lenk : ((H.set b none).set bx none).length = H.length := by simp
              subst hxe
              cases hs with
              | slice0 =>
                -- nothing was there
                rename_i xs0 _
                have hm0 : m' = 0 := hlm.symm
                subst hm0
                have := fresh0 xs0 rfl hnm (by omega) ((H.set b none).set bx none) lenk hsub2 (hkillx _) hrk
                have e1 : (fun i => bif Nat.blt i 0 then g i else gx (i - 0)) = gx := by
                  funext k
                  have hb0 : Nat.blt k 0 = false := by cases k <;> rfl
                  rw [hb0]; rfl
                rw [Nat.zero_add, Nat.zero_add, e1]
                exact this
              | slice hp hbb hl hc h0 =>
                rename_i c' p rb
                rw [hpb] at hp; cases hp
                obtain ⟨hbase, hcap, cur, e', hcur, hcsz, hcone⟩ := hbkb.own rfl rb hbb
                simp only [Cont.rows] at hcap
                have hps : pb.sz = i.size := hbkb.sz
                have haddr : (⟨rb, pb.base + 0 * pb.sz, none⟩ : Addr) = ⟨rb, 0, none⟩ := by rw [hbase]; simp
                rw [haddr] at q2 ⊢
                by_cases hfit : l + n ≤ c'
                · -- in its place
                  have hcsz2 : c' * i.size ≤ cur.size := by
                    rw [hcsz, hps]
                    exact Nat.mul_le_mul_right _ (by omega)
                  have hrun := run_append_fit (P := P) (ty := ty) hu hi rb l c' hcur (.slice xb n xc) xb n xc rfl news (r2 w rfl) r1 r3 hfit hcsz2
                  have hfit3 : l * i.size + news.length ≤ cur.toList.length := by
                    have := Nat.mul_le_mul_right i.size hfit
                    rw [Nat.add_mul] at this
                    rw [r1]
                    simp only [Array.length_toList]; omega
                  generalize hcs' : (splice cur.toList (l * i.size) news).toArray = cs' at hrun
                  have hsize : cs'.size = cur.size := by
                    rw [← hcs']
                    simp only [List.size_toArray]; rw [length_splice _ _ _ hfit3]; simp
                  have hget0 : ∀ k : Nat, cs'[k]? = if l * i.size ≤ k ∧ k < l * i.size + news.length then news[k - l * i.size]? else cur[k]? := by
                    intro k
                    rw [← hcs', List.getElem?_toArray, getElem?_splice _ _ _ hfit3]
                    split
                    · rfl
                    · simp
                  -- where the old cells stand
                  have hold : ∀ r j, r < m' → j < i.size → olds[r * i.size + j]? = cur[r * i.size + j]? := by
                    intro r j hr hj
                    obtain ⟨v2, u, p2, rb2, cs2, e2, f2, a1, a2, a3, a4, a5, a6, a7⟩ := q4 r j (by omega) hj
                    rw [hpb] at a4; cases a4
                    rw [hbb] at a5; cases a5
                    rw [hcur] at a6; cases a6
                    rw [hbase, hps, Nat.zero_add] at a7
                    rw [a1, a7]
                  have hget : ∀ r j, r < m' + m → j < i.size → cs'[r * i.size + j]? = (olds ++ news)[r * i.size + j]? := by
                    intro r j hr hj
                    rw [hget0]
                    by_cases h : r < m'
                    · have hk : r * i.size + j < l * i.size := by
                        have := Nat.mul_le_mul_right i.size (show r + 1 ≤ l by omega)
                        rw [Nat.add_mul] at this; omega
                      rw [if_neg (by omega), List.getElem?_append_left (by rw [q1]; exact hk), hold r j h hj]
                    · have e2 : r * i.size + j = l * i.size + ((r - m') * i.size + j) := by
                        rw [← Nat.add_assoc, ← Nat.add_mul]; congr 2; omega
                      have hk : (r - m') * i.size + j < n * i.size := by
                        have := Nat.mul_le_mul_right i.size (show (r - m') + 1 ≤ n by omega)
                        rw [Nat.add_mul] at this; omega
                      rw [e2, if_pos ⟨by omega, by omega⟩, List.getElem?_append_right (by omega), q1]
                  have hw : ∀ rb', rb' ≠ rb → (w.setRow rb cs').heap[rb']? = w.heap[rb']? := fun rb' hne' => setRow_other w rb rb' cs' hne'
                  obtain ⟨k1, k2⟩ := appN_hid (w' := w.setRow rb cs') (q := pb) (n := m' + m) (sz := i.size) (gg := appN m' g gx) hrh rfl lenk hsub2 (fun r => if r < m' then (b, r) else (bx, r - m')) hgone2 horg (by simp)
                    (fun i1 p c rb' h1 h2 h3 => hw rb' fun e => by
                      subst e
                      have h4 := hset _ _ _ c (hset _ _ _ c h2).1
                      exact hrh.sep b i1 pb p _ c _ hpb hb rfl h1 h4.1 (fun e => h4.2 e.symm) hbb h3)
                    (fun i1 r j own xs v2 rb' h1 h2 => hw rb' fun e => by
                      subst e
                      exact hrh.hid.s1 b pb _ _ hpb hb rfl hbb _ _ _ _ _ _ h1 h2)
                    (fun r j xs v2 rb' cs e f hr' hj hb1 hb2 hb3 => by
                      rw [hbb] at hb1; cases hb1
                      rw [setRow_heap w rb cur cs' e' (0, 0) hcur] at hb2
                      simp only [Option.some.injEq, Obj.cells.injEq] at hb2
                      obtain ⟨rfl, _⟩ := hb2
                      have hjs : j < i.size := by have := some_lt hj; rw [hgl r hr'] at this; exact this
                      rw [hbase, hps, Nat.zero_add, hget r j hr' hjs] at hb3
                      exact cell r j xs v2 hr' hj hb3)
                    (fun rb' hrb' => .inr ⟨b, pb, _, hpb, hrb', hb, rfl⟩)
                  have hbk2 : (H.set bx none)[b]? = some (some ⟨true, .nst m' i.size g o⟩) := by
                    rw [List.getElem?_set, if_neg (fun e => hbne e.symm)]; exact hb
                  have hcomm : (H.set bx none).set b none = (H.set b none).set bx none := List.set_comm none none (fun e => hbne e.symm)
                  have hrh2 := RH.inplaceG (Ext.kill hrh bx).rh (c' := .nst (m' + m) i.size (appN m' g gx) []) (cs' := cs') hpb hbk2 rfl hbb hcur hsize
                    (fun j u hu' => by
                      rw [hget0] at hu'
                      split at hu'
                      · exact r3 u (List.mem_of_getElem? hu')
                      · exact hcone j u hu')
                    (by simp only [Cont.rows]; omega) rfl (fun r hr' => by simp only [Cont.row, List.length_map, Cont.sz]; exact hgl r hr')
                    (fun r j hr' hj => by
                      simp only [Cont.rows] at hr'
                      simp only [Cont.sz] at hj
                      obtain ⟨v2, u, a1, a2, a3⟩ := both r j hr' hj
                      exact ⟨v2, u, by rw [hps, hget r j hr' hj]; exact a1, a2, a3⟩) rfl (by rw [hcomm]; exact k1)
                  rw [hcomm] at hrh2
                  refine ⟨_, _, _, hrun, ?_, ⟨⟨_, rfl⟩, hrh2, ⟨rfl, rfl, rfl, by simp, fun rb' hr' hn' => hw rb' fun e => ?_⟩, ?_⟩⟩
                  · have := VR.slice (ι := ι ++ [pb]) (b := H.length) (i := 0) (l := l + n) (c := 1) (c' := c') (getElem?_new _ _ _ hrh.len) hbb hfit (by omega) (by omega)
                    rw [haddr] at this
                    exact this
                  · subst e; exact hn' (.inl ⟨b, pb, _, hpb, hb, rfl, hbb⟩)
                  · rintro rb' (⟨i1, p, c, hp, hc, ho, hrb⟩ | ho2)
                    · rcases getElem?_snoc hp with ⟨g1, hi1⟩ | ⟨hi1, rfl⟩
                      · rcases getElem?_snoc hc with ⟨g2, _⟩ | ⟨hi2, _⟩
                        · exact .inl (.inl ⟨i1, p, c, g1, hsub2 _ _ g2, ho, hrb⟩)
                        · simp at hi2; omega
                      · exact .inl (.inl ⟨b, p, _, hpb, hb, rfl, hrb⟩)
                    · exact .inl (k2 rb' ho2)
                · -- in a new one
                  simp only [Value.slice.injEq] at hse
                  obtain ⟨rfl, _, rfl⟩ := hse
                  have hr := run_append_more (P := P) (w := w) (ty := ty) hu hi hz (some ⟨rb, 0, none⟩) l c' (.slice xb n xc) xb n xc rfl news olds (r2 w.drew rfl) (q2 w.drew rfl) (by omega) (by omega) hby
                  have hge := grownCap_ge w (l + n) c' el
                  generalize hcells : (olds ++ news ++ (Builtin.zeroCells z.cells (grownCap w (l + n) c' el - (l + n))).toList).toArray = cs' at hr
                  have hget : ∀ k : Nat, k < (l + n) * i.size → cs'[k]? = (olds ++ news)[k]? := by
                    intro k hk
                    rw [← hcells, List.getElem?_toArray, List.getElem?_append_left (by rw [List.length_append, q1, r1, ← Nat.add_mul]; exact hk)]
                  have hin : ∀ r j, r < m' + m → j < i.size → r * i.size + j < (l + n) * i.size := by
                    intro r j hr hj
                    have := Nat.mul_le_mul_right i.size (show r + 1 ≤ l + n by omega)
                    rw [Nat.add_mul] at this; omega
                  have hw : ∀ rb : Nat, rb < w.heap.size → (w.drew.alloc (.cells cs' el)).heap[rb]? = w.heap[rb]? := fun rb hr => heap_alloc_lt w.drew _ rb hr
                  obtain ⟨k1, k2⟩ := appN_hid (w' := w.drew.alloc (.cells cs' el)) (q := ⟨some w.heap.size, 0, i.size, grownCap w (l + n) c' el⟩) (n := m' + m) (sz := i.size) (gg := appN m' g gx) hrh rfl lenk hsub2 (fun r => if r < m' then (b, r) else (bx, r - m')) hgone2 horg (by show w.heap.size ≤ (w.heap.push _).size; simp)
                    (fun i1 p c rb h1 h2 h3 => hw rb (hrh.lt i1 p c rb h1 (hsub2 _ _ h2) h3)) (fun i1 r j own xs v rb h1 h2 => hw rb (hrh.hid.lt _ _ _ _ _ _ _ h1 h2))
                    (fun r j xs v2 rb' cs e f hr' hj hb1 hb2 hb3 => by
                      simp only [Option.some.injEq] at hb1
                      subst hb1
                      have hb2' : (w.drew.alloc (.cells cs' el)).heap[w.drew.heap.size]? = some (.cells cs e f) := hb2
                      rw [heap_alloc_new] at hb2'
                      simp only [Option.some.injEq, Obj.cells.injEq] at hb2'
                      obtain ⟨rfl, _⟩ := hb2'
                      have hjs : j < i.size := by have := some_lt hj; rw [hgl r hr'] at this; exact this
                      simp only [Nat.zero_add] at hb3
                      rw [hget _ (hin r j hr' hjs)] at hb3
                      exact cell r j xs v2 hr' hj hb3) (fun rb hrb => by simp at hrb; exact .inl (by omega))
                  have hrh2 := RH.allocG (hrk.drawn hd) (.nst (m' + m) i.size (appN m' g gx) []) cs' el (grownCap w (l + n) c' el) (by simp only [Cont.rows]; omega)
                    (by rw [← hcells]; simp only [List.size_toArray, List.length_append, r1, q1, Array.length_toList, size_zeroCells, hzz, Cont.sz, ← Nat.add_mul]; congr 1; omega)
                    (fun r hr' => by simp only [Cont.row, List.length_map, Cont.sz]; exact hgl r hr')
                    (fun j u hu' => by
                      rw [← hcells, List.getElem?_toArray] at hu'
                      have hm := List.mem_of_getElem? hu'
                      simp only [List.mem_append] at hm
                      rcases hm with (hm | hm) | hm
                      · exact q3 u hm
                      · exact r3 u hm
                      · exact zeroCells_one hzo _ u hm)
                    (fun r j hr' hj => by
                      simp only [Cont.rows] at hr'
                      simp only [Cont.sz] at hj
                      obtain ⟨v2, u, a1, a2, a3⟩ := both r j hr' hj
                      exact ⟨v2, u, by simp only [Cont.sz]; rw [hget _ (hin r j hr' hj)]; exact a1, a2, a3⟩)
                    rfl k1
                  refine ⟨_, _, _, hr, ?_, ⟨⟨_, rfl⟩, hrh2, ⟨rfl, rfl, rfl, (by show w.heap.size ≤ (w.heap.push _).size; simp), fun rb hr' _ => hw rb hr'⟩, ?_⟩⟩
                  · have := VR.slice (ι := ι ++ [⟨some w.heap.size, 0, i.size, grownCap w (l + n) c' el⟩]) (b := H.length) (i := 0) (l := l + n) (c := 1) (c' := grownCap w (l + n) c' el) (getElem?_new _ _ _ hrh.len) rfl hge (by simp) (by omega)
                    simpa [Cont.sz] using this
                  · rintro rb' (⟨i1, p, c, hp, hc, ho, hrb⟩ | ho2)
                    · rcases getElem?_snoc hp with ⟨g1, hi1⟩ | ⟨hi1, rfl⟩
                      · rcases getElem?_snoc hc with ⟨g2, _⟩ | ⟨hi2, _⟩
                        · exact .inl (.inl ⟨i1, p, c, g1, hsub2 _ _ g2, ho, hrb⟩)
                        · simp at hi2; omega
                      · simp at hrb; exact .inr (by omega)
                    · exact .inl (k2 rb' ho2)
          · cases h
        · cases h
    · cases h
  · cases h

end
end Go.Sim
