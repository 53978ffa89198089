/- A pure account of the values, floats and memory of a run, and how it stands to the model's (part 7: the evaluator of single operations is right: stores and new blocks). Conditions: none. -/
import Derived.Test.YtgjdkhocnnoimaaS6
namespace Go.Sim
open Go

/-- An operation that gives a value and turns memory as told. -/
def Runs (P : Program) (m : Sem Value) (ι : List Place) (H : Heap) (w : World) (v : Value) (H' : Heap) : Prop :=
  ∃ ι' v' w', m.run P w = .ok v' w' ∧ VR ι' v v' ∧ Ext ι H w ι' H' w'

theorem VR.one {ι : List Place} {v v' : Value} (h : VR ι v v') (h1 : one1 v = true) : v'.oneCell' = true := by
  cases h <;> first | rfl | cases h1

theorem VRs.ones {ι : List Place} : ∀ {l l' : List Value}, VRs ι l l' → allP one1 l = true → ∀ v ∈ l', v.oneCell' = true
  | _, _, .nil, _, v, hv => by cases hv
  | _, _, .cons h hs, h1, v, hv => by
    simp [allP] at h1
    rcases List.mem_cons.1 hv with rfl | hv
    · exact h.one h1.1
    · exact VRs.ones hs h1.2 v hv

theorem VR.cells {ι : List Place} {v v' : Value} (h : VR ι v v') : VRs ι (cellsV v) v'.cells.toList := by
  cases h
  case agg h => simpa [cellsV, Value.cells] using h
  all_goals exact .cons (by first | exact .bool _ | exact .int _ _ | exact .float ‹_› ‹_› | exact .complex ‹_› ‹_› ‹_› ‹_› | exact .string _ | exact .nilFunc | exact .nilp | exact .ptr ‹_› ‹_› | exact .nils | exact .slice ‹_› ‹_› ‹_› ‹_› ‹_› | exact .slice0 ‹_› | exact .func _ ‹_› ‹_› | exact .hid _ _ _ | exact .tuple ‹_›) .nil

theorem scsOf_eq : ∀ {us : List Value} {ss : List Sc}, scsOf us = some ss → us = ss.map Sc.v
  | [], ss, h => by simp [scsOf] at h; subst h; rfl
  | u :: us, ss, h => by
    simp only [scsOf] at h
    cases h1 : scOf u with
    | none => simp [h1] at h
    | some s => cases h2 : scsOf us with
      | none => simp [h1, h2] at h
      | some r =>
        simp [h1, h2] at h; subst h
        rw [scsOf_eq h2]
        simp
        cases u <;> simp [scOf] at h1 <;> subst h1 <;> rfl

theorem getElem?_splice {α : Type} (l : List α) (j : Nat) (us : List α) (h : j + us.length ≤ l.length) (i : Nat) :
    (splice l j us)[i]? = if j ≤ i ∧ i < j + us.length then us[i - j]? else l[i]? := by
  unfold splice
  have h1 : (l.take j).length = j := by simp; omega
  rcases Nat.lt_or_ge i j with hi | hi
  · rw [if_neg (by omega), List.append_assoc, List.getElem?_append_left (by omega), List.getElem?_take, if_pos hi]
  · rcases Nat.lt_or_ge i (j + us.length) with hi2 | hi2
    · rw [if_pos ⟨hi, hi2⟩, List.append_assoc, List.getElem?_append_right (by omega), h1, List.getElem?_append_left (by omega)]
    · rw [if_neg (by omega), List.getElem?_append_right (by simp; omega), List.getElem?_drop]
      congr 1; simp; omega

theorem length_splice {α : Type} (l : List α) (j : Nat) (us : List α) (h : j + us.length ≤ l.length) : (splice l j us).length = l.length := by
  unfold splice; simp; omega

theorem getD_set {α : Type} (xs : List α) (r i : Nat) (x d : α) (h : r < xs.length) : (xs.set r x).getD i d = if i = r then x else xs.getD i d := by
  simp only [List.getD_eq_getElem?_getD, List.getElem?_set]
  by_cases hi : i = r
  · subst hi; simp [h]
  · rw [if_neg (fun e => hi e.symm), if_neg hi]

theorem put_plain {c c' : Cont} {r j : Nat} {us : List Value} (h : c.put r j us = some c') : c'.plainC = true := by
  unfold Cont.put at h
  repeat' first | (simp only [reduceCtorEq] at h; done) | (cases h; done) | split at h
  all_goals
    first
    | (generalize hb : (_ && _) = b at h
       cases b <;> simp only [cond_true, cond_false, Option.some.injEq, reduceCtorEq] at h
       subst h; rfl)
    | (generalize hb : Nat.ble _ _ = b at h
       cases b <;> simp only [cond_true, cond_false, Option.some.injEq, reduceCtorEq] at h
       subst h; rfl)

/-- What a content is behind a store into row 'r' from column 'j' on. -/
theorem put_spec {c c' : Cont} {r j : Nat} {us : List Value} (h : c.put r j us = some c') (hr : r < c.rows) (hlen : ∀ r', r' < c.rows → (c.row r').length = c.sz) :
    c'.rows = c.rows ∧ c'.sz = c.sz ∧ j + us.length ≤ c.sz ∧ (∀ r', r' < c.rows → (c'.row r').length = c.sz) ∧
    ∀ r' j', r' < c.rows → (c'.row r')[j']? = if r' = r ∧ j ≤ j' ∧ j' < j + us.length then us[j' - j]? else (c.row r')[j']? := by
  cases c with
  | nst => simp [Cont.put] at h
  | fl k xs =>
    simp only [Cont.put] at h
    split at h
    · rename_i k' x
      cases hk : sameF k k' && Nat.beq j 0 with
      | false => simp [hk] at h
      | true =>
        simp only [hk, cond_true, Option.some.injEq] at h
        subst h
        simp at hk
        obtain ⟨hk1, rfl⟩ := hk
        obtain rfl := sameF_eq hk1
        refine ⟨by simp [Cont.rows], rfl, by simp [Cont.sz], fun _ _ => rfl, fun r' j' hr' => ?_⟩
        simp only [Cont.row, getD_set _ _ _ _ _ hr]
        by_cases h1 : r' = r
        · subst h1
          cases j' with
          | zero => simp
          | succ n => simp
        · simp [h1]
    · cases h
  | it k xs =>
    simp only [Cont.put] at h
    split at h
    · rename_i k' x
      cases hk : sameI k k' && Nat.beq j 0 with
      | false => simp [hk] at h
      | true =>
        simp only [hk, cond_true, Option.some.injEq] at h
        subst h
        simp at hk
        obtain ⟨hk1, rfl⟩ := hk
        obtain rfl := sameI_eq hk1
        refine ⟨by simp [Cont.rows], rfl, by simp [Cont.sz], fun _ _ => rfl, fun r' j' hr' => ?_⟩
        simp only [Cont.row, getD_set _ _ _ _ _ hr]
        by_cases h1 : r' = r
        · subst h1
          cases j' with
          | zero => simp
          | succ n => simp
        · simp [h1]
    · cases h
  | cx k xs =>
    simp only [Cont.put] at h
    split at h
    · rename_i k' x y
      cases hk : sameF k k' && Nat.beq j 0 with
      | false => simp [hk] at h
      | true =>
        simp only [hk, cond_true, Option.some.injEq] at h
        subst h
        simp at hk
        obtain ⟨hk1, rfl⟩ := hk
        obtain rfl := sameF_eq hk1
        refine ⟨by simp [Cont.rows], rfl, by simp [Cont.sz], fun _ _ => rfl, fun r' j' hr' => ?_⟩
        simp only [Cont.row, getD_set _ _ _ _ _ hr]
        by_cases h1 : r' = r
        · subst h1
          cases j' with
          | zero => simp
          | succ n => simp
        · simp [h1]
    · cases h
  | vs l =>
    simp only [Cont.put] at h
    cases hk : Nat.ble (j + us.length) l.length with
    | false => simp [hk] at h
    | true =>
      simp only [hk, cond_true, Option.some.injEq] at h
      subst h
      have hle : j + us.length ≤ l.length := Nat.le_of_ble_eq_true hk
      refine ⟨rfl, by simp [Cont.sz, length_splice _ _ _ hle], by simpa [Cont.sz] using hle, fun r' _ => by simp [Cont.row, Cont.sz, length_splice _ _ _ hle], fun r' j' hr' => ?_⟩
      simp only [Cont.rows] at hr hr'
      have e : r' = r := by omega
      simp only [Cont.row, getElem?_splice _ _ _ hle, e, true_and]
  | fn n sz g =>
    simp only [Cont.put] at h
    split at h
    · rename_i ss hss
      obtain rfl := scsOf_eq hss
      cases hk : Nat.ble (j + ss.length) sz with
      | false => simp [hk] at h
      | true =>
        simp only [hk, cond_true, Option.some.injEq] at h
        subst h
        have hle : j + ss.length ≤ sz := Nat.le_of_ble_eq_true hk
        have hl := hlen r hr
        simp only [Cont.row, Cont.sz, List.length_map] at hl
        refine ⟨rfl, rfl, by simpa [Cont.sz] using hle, fun r' hr' => ?_, fun r' j' hr' => ?_⟩
        · have hl' := hlen r' hr'
          simp only [Cont.row, Cont.sz, List.length_map] at hl' ⊢
          cases hb : Nat.beq r' r with
          | true =>
            have := Nat.eq_of_beq_eq_true hb; subst this
            simp only [cond_true]; rw [length_splice _ _ _ (by omega)]; exact hl
          | false => simpa using hl'
        · simp only [Cont.row, List.getElem?_map, List.length_map]
          cases hb : Nat.beq r' r with
          | true =>
            have := Nat.eq_of_beq_eq_true hb; subst this
            simp only [cond_true, true_and]
            rw [getElem?_splice _ _ _ (by omega)]
            split <;> rfl
          | false =>
            have hne : r' ≠ r := fun e => by subst e; simp at hb
            simp [hne]
    · cases h

section
variable {P : Program} {ι : List Place} {w : World}

/-- An own block's cells turn, its shape stays. -/
theorem RH.putG {H : Heap} (hrh : RH ι H w) {b : Nat} {p : Place} {blk : Blk} {rb : Nat} {cs cs' : Array Value} {e : TypeId} {c' : Cont}
    (hp : ι[b]? = some p) (hH : H[b]? = some (some blk)) (ho : blk.own = true) (hb : p.blk = some rb) (hcs : w.heap[rb]? = some (.cells cs e (0, 0)))
    (hsize : cs'.size = cs.size) (hone : ∀ (j : Nat) (v : Value), cs'[j]? = some v → v.oneCell' = true) (hrows : c'.rows = blk.c.rows) (hsz : c'.sz = blk.c.sz)
    (hlen : ∀ r, r < blk.c.rows → (c'.row r).length = blk.c.sz)
    (hc : ∀ r j, r < blk.c.rows → j < blk.c.sz → ∃ v u, cs'[r * p.sz + j]? = some v ∧ (c'.row r)[j]? = some u ∧ VR ι u v)
    (hvia : c'.vias = []) (hhid : HidOk ι (H.set b (some ⟨true, c'⟩)) (w.setRow rb cs')) :
    RH ι (H.set b (some ⟨true, c'⟩)) (w.setRow rb cs') := by
  have hbk := hrh.blk b p blk hp hH
  obtain ⟨hbase, hcap, cs0, e0, hcs0, hcsz, _⟩ := hbk.own ho rb hb
  rw [hcs] at hcs0; simp only [Option.some.injEq, Obj.cells.injEq] at hcs0
  obtain ⟨rfl, rfl, _⟩ := hcs0
  have hlt : b < H.length := some_lt hH
  refine ⟨by simp [hrh.len], ?_, ?_, ?_, hhid⟩
  · intro i q c hq hcq
    rw [List.getElem?_set] at hcq
    split at hcq
    · rename_i hi
      subst hi
      simp at hcq; subst hcq
      rw [hp] at hq; cases hq
      refine ⟨by rw [hbk.sz]; exact hsz.symm, fun r hr => ?_, fun r j hr hj => ?_, fun _ rb' hrb' => ?_, fun r k hk => by rw [hvia] at hk; cases hk⟩
      · rw [hlen r (by rw [← hrows]; exact hr)]; exact hsz.symm
      · obtain ⟨v, u, h1, h2, h3⟩ := hc r j (by rw [← hrows]; exact hr) (by rw [← hsz]; exact hj)
        exact ⟨rb, cs', e, (0, 0), v, u, hb, setRow_heap w rb cs cs' e (0, 0) hcs, by rw [hbase]; simpa using h1, h2, h3, hone _ v h1⟩
      · rw [hb] at hrb'; cases hrb'
        exact ⟨hbase, by rw [hrows]; exact hcap, cs', e, setRow_heap w rb cs cs' e (0, 0) hcs, by rw [hsize, hcsz], hone⟩
    · rename_i hi
      refine (hrh.blk i q c hq hcq).of_heap (fun _ _ x => x) fun rb' hrb' _ => ?_
      refine setRow_other w rb rb' cs' fun e' => ?_
      subst e'
      exact hrh.sep b i p q blk c _ hp hH ho hq hcq hi hb hrb'
  · intro i j q r c d rb' hq hcq hoq hr hdr hij hrb'
    rw [List.getElem?_set] at hcq hdr
    have hown : ∀ i c, (if b = i then (if b < H.length then some (some (⟨true, c'⟩ : Blk)) else none) else H[i]?) = some (some c) → ∃ c0, H[i]? = some (some c0) ∧ (c.own = true → c0.own = true) := by
      intro i c h
      split at h
      · rename_i hi; subst hi; exact ⟨blk, hH, fun _ => ho⟩
      · exact ⟨c, h, id⟩
    obtain ⟨c0, hc0, ho0⟩ := hown i c hcq
    obtain ⟨d0, hd0, _⟩ := hown j d hdr
    exact hrh.sep i j q r c0 d0 rb' hq hc0 (ho0 hoq) hr hd0 hij hrb'
  · intro i q c rb' hq hcq hrb'
    rw [List.getElem?_set] at hcq
    simp only [setRow_size]
    split at hcq
    · rename_i hi; subst hi
      rw [hp] at hq; cases hq
      exact hrh.lt b p blk rb' hp hH hrb'
    · exact hrh.lt i q c rb' hq hcq hrb'

theorem Ext.putG {H : Heap} (hrh : RH ι H w) {b : Nat} {p : Place} {blk : Blk} {rb : Nat} {cs cs' : Array Value} {e : TypeId} {c' : Cont}
    (hp : ι[b]? = some p) (hH : H[b]? = some (some blk)) (ho : blk.own = true) (hb : p.blk = some rb) (hcs : w.heap[rb]? = some (.cells cs e (0, 0)))
    (hsize : cs'.size = cs.size) (hone : ∀ (j : Nat) (v : Value), cs'[j]? = some v → v.oneCell' = true) (hrows : c'.rows = blk.c.rows) (hsz : c'.sz = blk.c.sz)
    (hlen : ∀ r, r < blk.c.rows → (c'.row r).length = blk.c.sz)
    (hc : ∀ r j, r < blk.c.rows → j < blk.c.sz → ∃ v u, cs'[r * p.sz + j]? = some v ∧ (c'.row r)[j]? = some u ∧ VR ι u v)
    (hvia : c'.vias = []) (hhid : HidOk ι (H.set b (some ⟨true, c'⟩)) (w.setRow rb cs')) (hfr : ∀ rb', Own2 ι (H.set b (some ⟨true, c'⟩)) (w.setRow rb cs') rb' → Own ι H w rb' ∨ w.heap.size ≤ rb') :
    Ext ι H w ι (H.set b (some ⟨true, c'⟩)) (w.setRow rb cs') := by
  refine ⟨⟨[], by simp⟩, RH.putG hrh hp hH ho hb hcs hsize hone hrows hsz hlen hc hvia hhid, ?_, ?_⟩
  · refine ⟨rfl, rfl, rfl, by simp, fun rb' hr hn => setRow_other w rb rb' cs' fun e' => ?_⟩
    subst e'
    exact hn (.inl ⟨b, p, blk, hp, hH, ho, hb⟩)
  · rintro rb' (⟨i, q, c, hq, hcq, hoq, hrb'⟩ | ho2)
    rotate_left
    · exact hfr rb' ho2
    left; left
    rw [List.getElem?_set] at hcq
    split at hcq
    · rename_i hi; subst hi
      rw [hp] at hq; cases hq
      exact ⟨b, p, blk, hp, hH, ho, hrb'⟩
    · exact ⟨i, q, c, hq, hcq, hoq, hrb'⟩

/-- The heap but for one block. -/
theorem hid_set {H : Heap} (hrh : RH ι H w) {b : Nat} {p : Place} {blk : Blk} {rb : Nat} {cs' : Array Value} {c' : Option Blk}
    (hp : ι[b]? = some p) (hH : H[b]? = some (some blk)) (ho : blk.own = true) (hb : p.blk = some rb) (hpl : ∀ c, c' = some c → c.c.plainC = true) :
    HidOk ι (H.set b c') (w.setRow rb cs') ∧ ∀ rb', Own2 ι (H.set b c') (w.setRow rb cs') rb' → Own2 ι H w rb' := by
  have key : ∀ i r j own xs v, HidCell ι (H.set b c') (w.setRow rb cs') i r j own xs v → HidCell ι H w i r j own xs v ∧ i ≠ b := by
    rintro i r j own xs v ⟨q, c, n, sz, g, o, rb', cs, e, f, h1, h2, h3, h4, h5, h6, h7, h8, h9⟩
    rw [List.getElem?_set] at h2
    split at h2
    · rename_i hi
      split at h2
      · simp only [Option.some.injEq] at h2
        have := hpl c h2
        rw [h4] at this; cases this
      · cases h2
    · rename_i hi
      refine ⟨⟨q, c, n, sz, g, o, rb', cs, e, f, h1, h2, h3, h4, h5, h6, h7, ?_, h9⟩, fun e => hi e.symm⟩
      rw [← setRow_other w rb rb' cs' (fun e' => by subst e'; exact hrh.sep b i p q blk c _ hp hH ho h1 h2 hi hb h7)]; exact h8
  refine ⟨hrh.hid.via (fun a b => a = b) (by simp) (fun i r j own xs v hc => ⟨i, own, rfl, (key _ _ _ _ _ _ hc).1, id, fun rb' hi _ => setRow_other w rb rb' cs' fun e' => ?_⟩) (fun _ _ _ _ _ _ _ _ _ _ _ _ _ _ a b => by rw [a, b]) fun i q c rb' h1 h2 h3 => ?_, fun rb' ⟨i, r, j, xs, v, h1, h2⟩ => ⟨i, r, j, xs, v, (key _ _ _ _ _ _ h1).1, h2⟩⟩
  · subst e'
    exact hrh.hid.s1 b p blk _ hp hH ho hb _ _ _ _ _ _ (key _ _ _ _ _ _ hc).1 hi
  · right
    rw [List.getElem?_set] at h2
    split at h2
    · rename_i hi; subst hi
      exact ⟨b, q, blk, h1, h3, hH, fun _ => ho⟩
    · exact ⟨i, q, c, h1, h3, h2, id⟩

theorem Ext.put {H : Heap} (hrh : RH ι H w) {b : Nat} {p : Place} {blk : Blk} {rb : Nat} {cs cs' : Array Value} {e : TypeId} {c' : Cont}
    (hp : ι[b]? = some p) (hH : H[b]? = some (some blk)) (ho : blk.own = true) (hb : p.blk = some rb) (hcs : w.heap[rb]? = some (.cells cs e (0, 0)))
    (hsize : cs'.size = cs.size) (hone : ∀ (j : Nat) (v : Value), cs'[j]? = some v → v.oneCell' = true) (hrows : c'.rows = blk.c.rows) (hsz : c'.sz = blk.c.sz)
    (hlen : ∀ r, r < blk.c.rows → (c'.row r).length = blk.c.sz)
    (hc : ∀ r j, r < blk.c.rows → j < blk.c.sz → ∃ v u, cs'[r * p.sz + j]? = some v ∧ (c'.row r)[j]? = some u ∧ VR ι u v) (hpl : c'.plainC = true) :
    Ext ι H w ι (H.set b (some ⟨true, c'⟩)) (w.setRow rb cs') := by
  obtain ⟨h1, h2⟩ := hid_set (cs' := cs') (c' := some ⟨true, c'⟩) hrh hp hH ho hb (fun c hc => by cases hc; exact hpl)
  exact Ext.putG hrh hp hH ho hb hcs hsize hone hrows hsz hlen hc (vias_plain hpl) h1 fun rb' hr => .inl (.inr (h2 rb' hr))

theorem idx_window {sz r r' j j' n : Nat} (hj' : j' < sz) (hn : j + n ≤ sz) : (r * sz + j ≤ r' * sz + j' ∧ r' * sz + j' < r * sz + j + n) ↔ (r' = r ∧ j ≤ j' ∧ j' < j + n) := by
  constructor
  · rintro ⟨h1, h2⟩
    rcases Nat.lt_trichotomy r' r with h | h | h
    · have := Nat.mul_le_mul_right sz (show r' + 1 ≤ r from h)
      rw [Nat.add_mul] at this
      omega
    · subst h; omega
    · have := Nat.mul_le_mul_right sz (show r + 1 ≤ r' from h)
      rw [Nat.add_mul] at this
      omega
  · rintro ⟨rfl, h1, h2⟩; omega

theorem evStore_sound {H H' : Heap} {t : TypeId} {x v x' v' : Value} {vc : List Prop} (h : evStore P H t x v = some (H', vc)) (hv : AllP vc) (hx : VR ι x x') (hvv : VR ι v v') (hrh : RH ι H w) :
    ∃ w', (Instr.storeAt t x' v').run P w = .ok () w' ∧ Ext ι H w ι H' w' := by
  unfold evStore at h
  split at h
  · rename_i b r j
    cases hx with | ptr hp hb =>
    rename_i p rb
    split at h
    · rename_i blk hblk
      rw [blkAt_eq] at hblk
      cases hcnd : (blk.own && allP one1 (cellsV v) && Nat.beq (cellsV v).length (P.cellsOf t) && (P.info? t).isSome) with
      | false => simp [hcnd] at h
      | true =>
        simp only [hcnd, cond_true] at h
        simp only [Bool.and_eq_true] at hcnd
        obtain ⟨⟨⟨ho, hone⟩, hn⟩, hinfo⟩ := hcnd
        have hn := Nat.eq_of_beq_eq_true hn
        split at h
        · rename_i vc' c hin hput
          simp only [Option.some.injEq, Prod.mk.injEq] at h
          obtain ⟨rfl, rfl⟩ := h
          have hr := inb_lt hin hv
          have hbk := hrh.blk b p blk hp hblk
          obtain ⟨hbase, hcap, cs, e, hcs, hcsz, hcone⟩ := hbk.own ho rb hb
          obtain ⟨s1, s2, s3, s4, s5⟩ := put_spec hput hr hbk.len
          have hcells := hvv.cells
          have hlen := hcells.length
          have hreal := hcells.ones hone
          have hsz := hbk.sz
          have hfit : r * p.sz + j + v'.cells.toList.length ≤ cs.size := by
            rw [← hlen, hcsz]
            have h1 := Nat.mul_le_mul_right p.sz (show r + 1 ≤ p.cap by omega)
            rw [Nat.add_mul] at h1
            omega
          have hst := run_storeCells_at P rb (r * p.sz + j) e v'.cells.toList 0 cs w hcs (by simpa using hfit) hreal
          simp only [Nat.add_zero] at hst
          refine ⟨w.setRow rb (splice cs.toList (r * p.sz + j) v'.cells.toList).toArray, ?_, ?_⟩
          · have hcl : v'.cells.size = P.cellsOf t := by rw [← hn, hlen]; simp
            simp [Instr.storeAt, Instr.sureAddr, storeVar, run_sizeOf' hinfo w, hcl, hbase]
            exact hst
          · rw [setAt_eq]
            refine Ext.put hrh hp hblk ho hb hcs ?_ ?_ s1 s2 s4 ?_ ?_
            · simp only [List.size_toArray]
              rw [length_splice _ _ _ (by simpa using hfit)]
              simp
            · intro i u hu
              rw [List.getElem?_toArray, getElem?_splice _ _ _ (by simpa using hfit)] at hu
              split at hu
              · exact hreal u (List.mem_of_getElem? hu)
              · exact hcone i u (by simpa using hu)
            · intro r' j' hr' hj'
              rw [List.getElem?_toArray, getElem?_splice _ _ _ (by simpa using hfit), s5 r' j' hr', ← hlen]
              have hw := idx_window (sz := p.sz) (r := r) (r' := r') (j := j) (j' := j') (n := (cellsV v).length) (by omega) (by omega)
              by_cases hin2 : r' = r ∧ j ≤ j' ∧ j' < j + (cellsV v).length
              · rw [if_pos (hw.2 hin2), if_pos hin2]
                obtain ⟨rfl, g1, g2⟩ := hin2
                obtain ⟨u', hu', hvr⟩ := hcells.get (j' - j) _ (List.getElem?_eq_getElem (show j' - j < (cellsV v).length by omega))
                refine ⟨u', _, ?_, List.getElem?_eq_getElem (show j' - j < (cellsV v).length by omega), hvr⟩
                rw [← hu']; congr 1; omega
              · rw [if_neg (fun hh => hin2 (hw.1 hh)), if_neg hin2]
                obtain ⟨rb', cs2, e2, f2, v2, u2, q1, q2, q3, q4, q5, _⟩ := hbk.cells r' j' hr' hj'
                rw [hb] at q1; cases q1
                rw [hcs] at q2; cases q2
                rw [hbase] at q3
                exact ⟨v2, u2, by simpa using q3, q4, q5⟩
            · exact put_plain hput
        · cases h
    · cases h
  · cases h

end
end Go.Sim
