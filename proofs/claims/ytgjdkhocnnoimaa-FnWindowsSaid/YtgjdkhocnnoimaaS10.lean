/- A pure account of the values, floats and memory of a run, and how it stands to the model's (part 10: the evaluator of single operations is right: append). Conditions: none. -/
import Derived.Test.YtgjdkhocnnoimaaS9
namespace Go.Sim
open Go

theorem allP_append : ∀ (a b : List Prop), AllP (a ++ b) → AllP a ∧ AllP b
  | [], _, h => ⟨trivial, h⟩
  | _ :: a, b, h => ⟨⟨h.1, (allP_append a b h.2).1⟩, (allP_append a b h.2).2⟩

theorem one1_list : ∀ {l : List Value}, allP one1 l = true → ∀ v ∈ l, v.oneCell' = true
  | [], _, v, hv => by cases hv
  | u :: l, h, v, hv => by
    simp [allP] at h
    rcases List.mem_cons.1 hv with rfl | hv
    · cases v <;> first | rfl | cases h.1
    · exact one1_list h.2 v hv

theorem one1_cells {z : Value} (h : allP one1 (cellsV ((some z).getD undef)) = true) : ∀ v ∈ z.cells.toList, v.oneCell' = true := by
  rw [← cellsV_eq]; exact one1_list h

theorem cut_spec {c c' : Cont} {r n : Nat} {vc : List Prop} (h : c.cut r n = some (c', vc)) (hv : AllP vc) : r = 0 ∧ c' = c ∧ n = c.rows := by
  cases c <;> simp only [Cont.cut] at h <;> try (cases h; done)
  all_goals
    cases hr : Nat.beq r 0 with
    | false => simp [hr] at h
    | true =>
      simp only [hr, cond_true, Option.some.injEq, Prod.mk.injEq] at h
      obtain ⟨rfl, rfl⟩ := h
      exact ⟨Nat.eq_of_beq_eq_true hr, rfl, hv.1⟩

theorem getD_part {α : Type} (xs : List α) (r n i : Nat) (d : α) (h : i < n) : ((xs.drop r).take n).getD i d = xs.getD (r + i) d := by
  simp only [List.getD_eq_getElem?_getD, List.getElem?_take, if_pos h, List.getElem?_drop]

theorem cut_plain {c c' : Cont} {r n : Nat} {vc : List Prop} (h : c.cut r n = some (c', vc)) (hv : AllP vc) : c'.plainC = true := by
  obtain ⟨_, rfl, _⟩ := cut_spec h hv
  cases c' <;> first | rfl | cases h

theorem part_plain {c c' : Cont} {r n : Nat} {vc : List Prop} (h : c.part r n = some (c', vc)) : c'.plainC = true := by
  cases c <;> simp only [Cont.part] at h <;> try (cases h; done)
  all_goals
    simp only [Option.some.injEq, Prod.mk.injEq] at h
    obtain ⟨rfl, rfl⟩ := h
    rfl

theorem part_spec {c c' : Cont} {r n : Nat} {vc : List Prop} (h : c.part r n = some (c', vc)) (hv : AllP vc) : c'.rows = n ∧ c'.sz = c.sz ∧ r + n ≤ c.rows ∧ ∀ i, i < n → c'.row i = c.row (r + i) := by
  cases c <;> simp only [Cont.part] at h <;> try (cases h; done)
  all_goals
    simp only [Option.some.injEq, Prod.mk.injEq] at h
    obtain ⟨rfl, rfl⟩ := h
    have h1 := hv.1
    refine ⟨by simp [Cont.rows]; omega, rfl, h1, fun i hi => ?_⟩
    simp only [Cont.row]
    rw [getD_part _ _ _ _ _ hi]

theorem getD_app {α : Type} (xs ys : List α) (i : Nat) (d : α) : (xs ++ ys).getD i d = if i < xs.length then xs.getD i d else ys.getD (i - xs.length) d := by
  simp only [List.getD_eq_getElem?_getD]
  split
  · rename_i h; rw [List.getElem?_append_left h]
  · rename_i h; rw [List.getElem?_append_right (by omega)]

theorem app_spec {c d e : Cont} (h : c.app d = some e) : d.sz = c.sz ∧ e.sz = c.sz ∧ e.rows = c.rows + d.rows ∧ ∀ i, e.row i = if i < c.rows then c.row i else d.row (i - c.rows) := by
  cases c <;> cases d <;> simp only [Cont.app] at h <;> try (cases h; done)
  case fl.fl k xs k' ys =>
    cases hk : sameF k k' with
    | false => simp [hk] at h
    | true =>
      obtain rfl := sameF_eq hk
      simp only [hk, cond_true, Option.some.injEq] at h; subst h
      refine ⟨rfl, rfl, by simp [Cont.rows], fun i => ?_⟩
      simp only [Cont.row, Cont.rows, getD_app]
      by_cases h : i < xs.length <;> simp [h]
  case it.it k xs k' ys =>
    cases hk : sameI k k' with
    | false => simp [hk] at h
    | true =>
      obtain rfl := sameI_eq hk
      simp only [hk, cond_true, Option.some.injEq] at h; subst h
      refine ⟨rfl, rfl, by simp [Cont.rows], fun i => ?_⟩
      simp only [Cont.row, Cont.rows, getD_app]
      by_cases h : i < xs.length <;> simp [h]
  case cx.cx k xs k' ys =>
    cases hk : sameF k k' with
    | false => simp [hk] at h
    | true =>
      obtain rfl := sameF_eq hk
      simp only [hk, cond_true, Option.some.injEq] at h; subst h
      refine ⟨rfl, rfl, by simp [Cont.rows], fun i => ?_⟩
      simp only [Cont.row, Cont.rows, getD_app]
      by_cases h : i < xs.length <;> simp [h]
  case fn.fn n sz g n' sz' g' =>
    cases hk : Nat.beq sz sz' with
    | false => simp [hk] at h
    | true =>
      have hs := Nat.eq_of_beq_eq_true hk
      simp only [hk, cond_true, Option.some.injEq] at h; subst h
      refine ⟨hs.symm, rfl, rfl, fun i => ?_⟩
      simp only [Cont.row, Cont.rows]
      cases hb : Nat.blt i n with
      | true => have : i < n := Nat.le_of_ble_eq_true hb; simp [this]
      | false =>
        have : ¬ i < n := fun h' => by have h2 : Nat.blt i n = true := Nat.ble_eq_true_of_le h'; rw [h2] at hb; cases hb
        simp [this]

theorem app_plain {c d e : Cont} (h : c.app d = some e) : e.plainC = true := by
  cases c <;> cases d <;> simp only [Cont.app] at h <;> try (cases h; done)
  all_goals
    first
    | (generalize hb : sameF _ _ = b at h
       cases b <;> simp only [cond_true, cond_false, Option.some.injEq, reduceCtorEq] at h
       subst h; rfl)
    | (generalize hb : sameI _ _ = b at h
       cases b <;> simp only [cond_true, cond_false, Option.some.injEq, reduceCtorEq] at h
       subst h; rfl)
    | (generalize hb : Nat.beq _ _ = b at h
       cases b <;> simp only [cond_true, cond_false, Option.some.injEq, reduceCtorEq] at h
       subst h; rfl)

section
variable {P : Program} {ι : List Place} {w : World}

/-- Rows read one after another. -/
theorem run_rows {H : Heap} (hrh : RH ι H w) {p : Place} {b : Nat} {blk : Blk} {rb r n : Nat} (hp : ι[b]? = some p) (hH : H[b]? = some (some blk)) (hb : p.blk = some rb) (hpos : 0 < blk.c.sz)
    (hn : r + n ≤ blk.c.rows) :
    ∃ l : List Value, l.length = n * blk.c.sz ∧ (∀ w2 : World, w2.heap = w.heap → (loadCells ⟨rb, p.base + r * p.sz, none⟩ (n * blk.c.sz)).run P w2 = .ok ⟨l⟩ w2) ∧ (∀ v ∈ l, v.oneCell' = true) ∧
      ∀ i j, i < n → j < blk.c.sz → ∃ v u, l[i * blk.c.sz + j]? = some v ∧ (blk.c.row (r + i))[j]? = some u ∧ VR ι u v := by
  have hbk := hrh.blk b p blk hp hH
  have hsz := hbk.sz
  have hcell : ∀ k, k < n * blk.c.sz → ∃ v u, w.cell? ⟨rb, p.base + r * p.sz + k, none⟩ = some v ∧ (blk.c.row (r + k / blk.c.sz))[k % blk.c.sz]? = some u ∧ VR ι u v ∧ v.oneCell' = true := by
    intro k hk
    have hd : k / blk.c.sz < n := (Nat.div_lt_iff_lt_mul hpos).2 hk
    obtain ⟨v, u, h1, h2, h3, h4⟩ := hbk.cell (r := r + k / blk.c.sz) (j := k % blk.c.sz) (by omega) (Nat.mod_lt _ hpos) hb
    refine ⟨v, u, ?_, h2, h3, h4⟩
    rw [← h1]
    have e : r * p.sz + k = (r + k / blk.c.sz) * p.sz + k % blk.c.sz := by
      rw [Nat.add_mul, hsz]
      have := Nat.div_add_mod k blk.c.sz
      rw [Nat.mul_comm] at this
      omega
    rw [Nat.add_assoc, e, Nat.add_assoc]
  have hcw : ∀ (w2 : World) (a : Addr), w2.heap = w.heap → w2.cell? a = w.cell? a := by
    intro w2 a h; simp [World.cell?, h]
  refine ⟨(List.range (n * blk.c.sz)).map fun i => (w.cell? ⟨rb, p.base + r * p.sz + i, none⟩).getD undef, by simp, ?_, ?_, ?_⟩
  · intro w2 hw2
    have := run_loadCells (P := P) w2 ⟨rb, p.base + r * p.sz, none⟩ (n * blk.c.sz) (fun i => (w.cell? ⟨rb, p.base + r * p.sz + i, none⟩).getD undef) (fun k hk => by
      obtain ⟨v, u, h1, _⟩ := hcell k hk
      rw [add_eq, hcw w2 _ hw2, h1]; rfl)
    simpa using this
  · intro v hv
    simp only [List.mem_map, List.mem_range] at hv
    obtain ⟨k, hk, rfl⟩ := hv
    obtain ⟨v', u', h1, _, _, h4⟩ := hcell k hk
    rw [h1]; exact h4
  · intro i j hi hj
    have hk : i * blk.c.sz + j < n * blk.c.sz := by
      have := Nat.mul_le_mul_right blk.c.sz (show i + 1 ≤ n from hi)
      rw [Nat.add_mul] at this; omega
    obtain ⟨v, u, h1, h2, h3, _⟩ := hcell _ hk
    have e1 : (i * blk.c.sz + j) / blk.c.sz = i := by
      rw [Nat.mul_comm, Nat.mul_add_div hpos, Nat.div_eq_of_lt hj]; omega
    have e2 : (i * blk.c.sz + j) % blk.c.sz = j := by
      rw [Nat.mul_comm, Nat.mul_add_mod, Nat.mod_eq_of_lt hj]
    rw [e1, e2] at h2
    exact ⟨v, u, by simp [hk, h1], h2, h3⟩

theorem run_firstCells_load (size n : Nat) (a : Addr) (l c : Nat) (w2 : World) (xs : List Value) (h : (loadCells a (n * size)).run P w2 = .ok ⟨xs⟩ w2) :
    (Builtin.firstCells size n (.slice (some a) l c)).run P w2 = .ok ⟨xs⟩ w2 := by
  simpa [Builtin.firstCells] using h

theorem run_firstCells_zero (size : Nat) (x : Option Addr) (l c : Nat) (w2 : World) : (Builtin.firstCells size 0 (.slice x l c)).run P w2 = .ok #[] w2 := by
  cases x <;> simp [Builtin.firstCells, loadCells, loadCellsFrom]

theorem srcCont_plain {H : Heap} {x : Value} {whole : Bool} {c : Cont} {n : Nat} {vc : List Prop} (h : srcCont H x whole = some (c, n, vc)) (hv : AllP vc) : c.plainC = true := by
  unfold srcCont at h
  split at h
  · split at h
    · split at h
      · rename_i c0 vc0 hcut
        simp only [Option.some.injEq, Prod.mk.injEq] at h
        obtain ⟨rfl, rfl, rfl⟩ := h
        cases whole with
        | true => exact cut_plain hcut hv
        | false => exact part_plain hcut
      · cases h
    · cases h
  · cases h

/-- What is appended, as it lies in the real world. -/
theorem srcCont_sound {H : Heap} (hrh : RH ι H w) {x x' : Value} {whole : Bool} {c : Cont} {n : Nat} {vc : List Prop} (h : srcCont H x whole = some (c, n, vc)) (hv : AllP vc) (hx : VR ι x x') (hpos : 0 < c.sz) :
    ∃ (xb : Option Addr) (xc : Nat) (news : List Value), x' = .slice xb n xc ∧ c.rows = n ∧ (∀ r, r < n → (c.row r).length = c.sz) ∧ news.length = n * c.sz ∧
      (∀ w2 : World, w2.heap = w.heap → (Builtin.firstCells c.sz n x').run P w2 = .ok ⟨news⟩ w2) ∧ (∀ v ∈ news, v.oneCell' = true) ∧
      ∀ r j, r < n → j < c.sz → ∃ v u, news[r * c.sz + j]? = some v ∧ (c.row r)[j]? = some u ∧ VR ι u v := by
  unfold srcCont at h
  split at h
  · rename_i b r m cc
    split at h
    · rename_i blk hblk
      rw [blkAt_eq] at hblk
      have key : ∃ c0 vc0, (bif whole then blk.c.cut r m else blk.c.part r m) = some (c0, vc0) ∧ c0 = c ∧ m = n ∧ vc0 = vc := by
        split at h
        · rename_i c0 vc0 hcut
          simp only [Option.some.injEq, Prod.mk.injEq] at h
          exact ⟨c0, vc0, hcut, h.1, h.2.1, h.2.2⟩
        · cases h
      obtain ⟨c0, vc0, hcut, rfl, rfl, rfl⟩ := key
      have hspec : c0.rows = m ∧ c0.sz = blk.c.sz ∧ r + m ≤ blk.c.rows ∧ ∀ i, i < m → c0.row i = blk.c.row (r + i) := by
        cases whole with
        | true =>
          obtain ⟨rfl, rfl, rfl⟩ := cut_spec hcut hv
          exact ⟨rfl, rfl, by omega, fun i _ => by rw [Nat.zero_add]⟩
        | false => exact part_spec hcut hv
      obtain ⟨s1, s2, s3, s4⟩ := hspec
      cases hx with
      | slice hp hb hl hcap h0 =>
        rename_i c' p rb
        have hbk := hrh.blk b p blk hp hblk
        obtain ⟨l, e1, e2, e3, e4⟩ := run_rows (P := P) hrh hp hblk hb (by omega) s3
        refine ⟨_, _, l, rfl, s1, fun i hi => by rw [s4 i hi, s2]; exact hbk.len _ (by omega), by rw [s2]; exact e1, fun w2 hw2 => by rw [s2]; exact run_firstCells_load _ _ _ _ _ _ _ (e2 w2 hw2), e3, ?_⟩
        intro i j hi hj
        rw [s2] at hj ⊢
        rw [s4 i hi]
        exact e4 i j hi hj
      | slice0 =>
        exact ⟨_, _, [], rfl, s1, fun i hi => by omega, by simp, fun w2 _ => run_firstCells_zero _ _ _ _ _, by simp, fun i j hi => by omega⟩
    · cases h
  · cases h

/-- Nothing appended, and there is room for it. -/
theorem run_append_none {t ty e : TypeId} {i : TypeInfo} (ht : P.underlying t = some (.slice e)) (hi : P.info? e = some i) (base xb : Option Addr) (sLen sCap xc : Nat) (h : sLen ≤ sCap) :
    (Builtin.append_ #[t, t] ty #[.slice base sLen sCap, .slice xb 0 xc]).run P w = .ok (.slice base sLen sCap) w := by
  have hf := run_firstCells_zero (P := P) i.size xb 0 xc w
  cases base <;> simp [Builtin.append_, run_underlying ht, sizeOf, typeInfo, hi, Builtin.lenOf, h, hf, storeCells]

theorem run_append_fit {t ty e e' : TypeId} {i : TypeInfo} (ht : P.underlying t = some (.slice e)) (hi : P.info? e = some i) (g sLen sCap : Nat) {cur : Array Value} (hg : w.heap[g]? = some (.cells cur e' (0, 0)))
    (x' : Value) (xb : Option Addr) (n xc : Nat) (hx : x' = .slice xb n xc) (news : List Value) (hf : (Builtin.firstCells i.size n x').run P w = .ok ⟨news⟩ w) (hl : news.length = n * i.size) (h1 : ∀ u ∈ news, u.oneCell' = true)
    (hroom : sLen + n ≤ sCap) (hfit : sCap * i.size ≤ cur.size) :
    (Builtin.append_ #[t, t] ty #[.slice (some ⟨g, 0, none⟩) sLen sCap, x']).run P w = .ok (.slice (some ⟨g, 0, none⟩) (sLen + n) sCap) (w.setRow g (splice cur.toList (sLen * i.size) news).toArray) := by
  subst hx
  have hfit2 : sLen * i.size + news.length ≤ cur.size := by
    have := Nat.mul_le_mul_right i.size hroom
    rw [Nat.add_mul] at this; omega
  have hst := run_storeCells_at P g (sLen * i.size) e' news 0 cur w hg (by simpa using hfit2) h1
  simp only [Nat.add_zero] at hst
  simp [Builtin.append_, run_underlying ht, sizeOf, typeInfo, hi, Builtin.lenOf, hroom, hf, add_eq]
  rw [hst]
  rfl

theorem run_append_more {t ty e : TypeId} {i : TypeInfo} {z : Value} (ht : P.underlying t = some (.slice e)) (hi : P.info? e = some i) (hz : i.zero = some z) (base : Option Addr) (sLen sCap : Nat)
    (x' : Value) (xb : Option Addr) (n xc : Nat) (hx : x' = .slice xb n xc) (news olds : List Value) (hf : (Builtin.firstCells i.size n x').run P w.drew = .ok ⟨news⟩ w.drew)
    (hfo : (Builtin.firstCells i.size sLen (.slice base sLen sCap)).run P w.drew = .ok ⟨olds⟩ w.drew)
    (hg : sCap < sLen + n) (hb : sLen + n ≤ 1073741824) (hby : i.bytes ≤ 1024) :
    (Builtin.append_ #[t, t] ty #[.slice base sLen sCap, x']).run P w =
      .ok (.slice (some ⟨w.heap.size, 0, none⟩) (sLen + n) (grownCap w (sLen + n) sCap e)) (w.drew.alloc (.cells (olds ++ news ++ (Builtin.zeroCells z.cells (grownCap w (sLen + n) sCap e - (sLen + n))).toList).toArray e)) := by
  subst hx
  have hn : ¬ (sLen + n ≤ sCap) := by omega
  have h63' : ¬ (9223372036854775807 < ((sLen : Int) + (n : Int))) := by omega
  have hfit : Builtin.nextslicecap (sLen + n) sCap * i.bytes ≤ 281474976710656 := growslice_fits hg (by
    have := Nat.mul_le_mul hb hby
    omega)
  have h48' : ¬ (281474976710656 < Builtin.nextslicecap (sLen + n) sCap * i.bytes) := by omega
  simp [Builtin.append_, run_underlying ht, sizeOf, typeInfo, zeroValue, hi, hz, Builtin.lenOf, hn, h63', h48', Question.forced, hf, hfo, newRow, grownCap]
  congr 2
  apply Array.ext'
  simp

/-- A block that is no more spoken of. -/
theorem Ext.kill {H : Heap} (h : RH ι H w) (b : Nat) : Ext ι H w ι (H.set b none) w := by
  have hs : ∀ (i : Nat) (c : Blk), (H.set b none)[i]? = some (some c) → H[i]? = some (some c) := by
    intro i c hc
    rw [List.getElem?_set] at hc
    split at hc
    · split at hc <;> cases hc
    · exact hc
  have hk : ∀ i r j own xs v, HidCell ι (H.set b none) w i r j own xs v → HidCell ι H w i r j own xs v := by
    rintro i r j own xs v ⟨q, c, n, sz, g, o, rb', cs, e, f, h1, h2, h3⟩
    exact ⟨q, c, n, sz, g, o, rb', cs, e, f, h1, hs i c h2, h3⟩
  have hh : HidOk ι (H.set b none) w := h.hid.via (fun a b => a = b) (Nat.le_refl _) (fun i r j own xs v hc => ⟨i, own, rfl, hk _ _ _ _ _ _ hc, id, fun rb _ _ => rfl⟩) (fun _ _ _ _ _ _ _ _ _ _ _ _ _ _ a b => by rw [a, b]) fun i p c rb h1 h2 h3 => .inr ⟨i, p, c, h1, h3, hs i c h2, id⟩
  refine ⟨⟨[], by simp⟩, ⟨by simp [h.len], fun i p c hp hc => h.blk i p c hp (hs i c hc), fun i j p q c d rb hp hc ho hq hd => h.sep i j p q c d rb hp (hs i c hc) ho hq (hs j d hd), fun i p c rb hp hc => h.lt i p c rb hp (hs i c hc), hh⟩,
    Fr.refl _ _, fun rb hr => .inl ?_⟩
  rcases hr with ⟨i, p, c, hp, hc, ho, hrb⟩ | ⟨i, r, j, xs, v, h1, h2⟩
  · exact .inl ⟨i, p, c, hp, hs i c hc, ho, hrb⟩
  · exact .inr ⟨i, r, j, xs, v, hk _ _ _ _ _ _ h1, h2⟩

/-- An own block that grows in its place: it has a new name. -/
theorem RH.inplaceG {H : Heap} (hrh : RH ι H w) {b : Nat} {p : Place} {blk : Blk} {rb : Nat} {cs cs' : Array Value} {e : TypeId} {c' : Cont}
    (hp : ι[b]? = some p) (hH : H[b]? = some (some blk)) (ho : blk.own = true) (hb : p.blk = some rb) (hcs : w.heap[rb]? = some (.cells cs e (0, 0)))
    (hsize : cs'.size = cs.size) (hone : ∀ (j : Nat) (v : Value), cs'[j]? = some v → v.oneCell' = true) (hrows : c'.rows ≤ p.cap) (hsz : c'.sz = blk.c.sz)
    (hlen : ∀ r, r < c'.rows → (c'.row r).length = c'.sz)
    (hc : ∀ r j, r < c'.rows → j < c'.sz → ∃ v u, cs'[r * p.sz + j]? = some v ∧ (c'.row r)[j]? = some u ∧ VR ι u v) (hvia : c'.vias = [])
    (hhid : HidOk (ι ++ [p]) (H.set b none ++ [some ⟨true, c'⟩]) (w.setRow rb cs')) :
    RH (ι ++ [p]) (H.set b none ++ [some ⟨true, c'⟩]) (w.setRow rb cs') := by
  have hbk := hrh.blk b p blk hp hH
  obtain ⟨hbase, hcap, cs0, e0, hcs0, hcsz, _⟩ := hbk.own ho rb hb
  rw [hcs] at hcs0; simp only [Option.some.injEq, Obj.cells.injEq] at hcs0
  obtain ⟨rfl, rfl, _⟩ := hcs0
  have hsub : Sub ι (ι ++ [p]) := fun b q hb => getElem?_snoc_lt hb
  have hl := hrh.len
  have hs : ∀ (i : Nat) (c : Blk), (H.set b none)[i]? = some (some c) → H[i]? = some (some c) ∧ i ≠ b := by
    intro i c hc
    rw [List.getElem?_set] at hc
    split at hc
    · split at hc <;> cases hc
    · rename_i hne; exact ⟨hc, fun e => hne e.symm⟩
  refine ⟨by simp [hl], ?_, ?_, ?_, hhid⟩
  · intro i q c hq hcq
    rcases getElem?_snoc hq with ⟨hq, hi⟩ | ⟨hi, rfl⟩
    · rcases getElem?_snoc hcq with ⟨hcq, _⟩ | ⟨hi', _⟩
      · obtain ⟨hcq, hne⟩ := hs i c hcq
        refine (hrh.blk i q c hq hcq).of_heap hsub fun rb' hrb' _ => setRow_other w rb rb' cs' fun e' => ?_
        subst e'
        exact hrh.sep b i p q blk c _ hp hH ho hq hcq (fun e => hne e.symm) hb hrb'
      · simp at hi'; omega
    · rcases getElem?_snoc hcq with ⟨hcq, hi'⟩ | ⟨_, hcq⟩
      · simp at hi'; omega
      · simp at hcq; subst hcq
        refine ⟨by rw [hbk.sz]; exact hsz.symm, hlen, fun r j hr hj => ?_, fun _ rb' hrb' => ?_, fun r k hk => by rw [hvia] at hk; cases hk⟩
        · obtain ⟨v, u, h1, h2, h3⟩ := hc r j hr hj
          exact ⟨rb, cs', e, (0, 0), v, u, hb, setRow_heap w rb cs cs' e (0, 0) hcs, by rw [hbase]; simpa using h1, h2, h3.mono hsub, hone _ v h1⟩
        · rw [hb] at hrb'; cases hrb'
          exact ⟨hbase, hrows, cs', e, setRow_heap w rb cs cs' e (0, 0) hcs, by rw [hsize, hcsz], hone⟩
  · intro i j q r c d rb' hq hcq hoq hr hdr hij hrb'
    rcases getElem?_snoc hq with ⟨hq1, hi⟩ | ⟨hi, rfl⟩
    · rcases getElem?_snoc hcq with ⟨hcq1, _⟩ | ⟨hi', _⟩
      · obtain ⟨hcq2, hne⟩ := hs i c hcq1
        rcases getElem?_snoc hr with ⟨hr1, hj⟩ | ⟨hj, hrp⟩
        · rcases getElem?_snoc hdr with ⟨hdr1, _⟩ | ⟨hj', _⟩
          · exact hrh.sep i j q r c d rb' hq1 hcq2 hoq hr1 (hs j d hdr1).1 hij hrb'
          · simp at hj'; omega
        · intro he
          rw [hrp] at he
          exact hrh.sep i b q p c blk rb' hq1 hcq2 hoq hp hH hne hrb' he
      · simp at hi'; omega
    · rw [hb] at hrb'; cases hrb'
      rcases getElem?_snoc hr with ⟨hr, hj⟩ | ⟨hj, rfl⟩
      · rcases getElem?_snoc hdr with ⟨hdr, _⟩ | ⟨hj', _⟩
        · obtain ⟨hdr, hne⟩ := hs j d hdr
          exact hrh.sep b j q r blk d _ hp hH ho hr hdr (fun e => hne e.symm) hb
        · simp at hj'; omega
      · omega
  · intro i q c rb' hq hcq hrb'
    simp only [setRow_size]
    rcases getElem?_snoc hq with ⟨hq, hi⟩ | ⟨hi, rfl⟩
    · rcases getElem?_snoc hcq with ⟨hcq, _⟩ | ⟨hi', _⟩
      · exact hrh.lt i q c rb' hq (hs i c hcq).1 hrb'
      · simp at hi'; omega
    · exact hrh.lt b q blk rb' hp hH hrb'

theorem Ext.inplaceG {H : Heap} (hrh : RH ι H w) {b : Nat} {p : Place} {blk : Blk} {rb : Nat} {cs cs' : Array Value} {e : TypeId} {c' : Cont}
    (hp : ι[b]? = some p) (hH : H[b]? = some (some blk)) (ho : blk.own = true) (hb : p.blk = some rb) (hcs : w.heap[rb]? = some (.cells cs e (0, 0)))
    (hsize : cs'.size = cs.size) (hone : ∀ (j : Nat) (v : Value), cs'[j]? = some v → v.oneCell' = true) (hrows : c'.rows ≤ p.cap) (hsz : c'.sz = blk.c.sz)
    (hlen : ∀ r, r < c'.rows → (c'.row r).length = c'.sz)
    (hc : ∀ r j, r < c'.rows → j < c'.sz → ∃ v u, cs'[r * p.sz + j]? = some v ∧ (c'.row r)[j]? = some u ∧ VR ι u v) (hvia : c'.vias = [])
    (hhid : HidOk (ι ++ [p]) (H.set b none ++ [some ⟨true, c'⟩]) (w.setRow rb cs')) (hfr : ∀ rb', Own2 (ι ++ [p]) (H.set b none ++ [some ⟨true, c'⟩]) (w.setRow rb cs') rb' → Own ι H w rb' ∨ w.heap.size ≤ rb') :
    Ext ι H w (ι ++ [p]) (H.set b none ++ [some ⟨true, c'⟩]) (w.setRow rb cs') := by
  have hbk := hrh.blk b p blk hp hH
  obtain ⟨hbase, hcap, cs0, e0, hcs0, hcsz, _⟩ := hbk.own ho rb hb
  rw [hcs] at hcs0; simp only [Option.some.injEq, Obj.cells.injEq] at hcs0
  obtain ⟨rfl, rfl, _⟩ := hcs0
  have hsub : Sub ι (ι ++ [p]) := fun b q hb => getElem?_snoc_lt hb
  have hl := hrh.len
  have hs : ∀ (i : Nat) (c : Blk), (H.set b none)[i]? = some (some c) → H[i]? = some (some c) ∧ i ≠ b := by
    intro i c hc
    rw [List.getElem?_set] at hc
    split at hc
    · split at hc <;> cases hc
    · rename_i hne; exact ⟨hc, fun e => hne e.symm⟩
  refine ⟨⟨_, rfl⟩, RH.inplaceG hrh hp hH ho hb hcs hsize hone hrows hsz hlen hc hvia hhid, ?_, ?_⟩
  · refine ⟨rfl, rfl, rfl, by simp, fun rb' hr hn => setRow_other w rb rb' cs' fun e' => ?_⟩
    subst e'
    exact hn (.inl ⟨b, p, blk, hp, hH, ho, hb⟩)
  · rintro rb' (⟨i, q, c, hq, hcq, hoq, hrb'⟩ | ho2)
    rotate_left
    · exact hfr rb' ho2
    left; left
    rcases getElem?_snoc hq with ⟨hq, hi⟩ | ⟨hi, rfl⟩
    · rcases getElem?_snoc hcq with ⟨hcq, _⟩ | ⟨hi', _⟩
      · exact ⟨i, q, c, hq, (hs i c hcq).1, hoq, hrb'⟩
      · simp at hi'; omega
    · exact ⟨b, q, blk, hp, hH, ho, hrb'⟩

theorem Ext.inplace {H : Heap} (hrh : RH ι H w) {b : Nat} {p : Place} {blk : Blk} {rb : Nat} {cs cs' : Array Value} {e : TypeId} {c' : Cont}
    (hp : ι[b]? = some p) (hH : H[b]? = some (some blk)) (ho : blk.own = true) (hb : p.blk = some rb) (hcs : w.heap[rb]? = some (.cells cs e (0, 0)))
    (hsize : cs'.size = cs.size) (hone : ∀ (j : Nat) (v : Value), cs'[j]? = some v → v.oneCell' = true) (hrows : c'.rows ≤ p.cap) (hsz : c'.sz = blk.c.sz)
    (hlen : ∀ r, r < c'.rows → (c'.row r).length = c'.sz)
    (hc : ∀ r j, r < c'.rows → j < c'.sz → ∃ v u, cs'[r * p.sz + j]? = some v ∧ (c'.row r)[j]? = some u ∧ VR ι u v) (hpl : c'.plainC = true) :
    Ext ι H w (ι ++ [p]) (H.set b none ++ [some ⟨true, c'⟩]) (w.setRow rb cs') := by
  have hl := hrh.len
  have key : ∀ i r j own xs v, HidCell (ι ++ [p]) (H.set b none ++ [some ⟨true, c'⟩]) (w.setRow rb cs') i r j own xs v → HidCell ι H w i r j own xs v ∧ i ≠ b := by
    rintro i r j own xs v ⟨q, c, n, sz, g, o, rb', cs2, e2, f, h1, h2, h3, h4, h5, h6, h7, h8, h9⟩
    rcases getElem?_snoc h2 with ⟨g2, hi⟩ | ⟨hi, g2⟩
    · rcases getElem?_snoc h1 with ⟨g1, _⟩ | ⟨hi', _⟩
      · rw [List.getElem?_set] at g2
        split at g2
        · split at g2 <;> cases g2
        · rename_i hne
          refine ⟨⟨q, c, n, sz, g, o, rb', cs2, e2, f, g1, g2, h3, h4, h5, h6, h7, ?_, h9⟩, fun e => hne e.symm⟩
          rw [← setRow_other w rb rb' cs' (fun e' => by subst e'; exact hrh.sep b i p q blk c _ hp hH ho g1 g2 hne hb h7)]; exact h8
      · simp at hi; omega
    · simp only [Option.some.injEq] at g2
      subst g2
      simp only at h4
      subst h4
      cases hpl
  refine Ext.inplaceG hrh hp hH ho hb hcs hsize hone hrows hsz hlen hc (vias_plain hpl) ?_ fun rb' ⟨i, r, j, xs, v, h1, h2⟩ => .inl (.inr ⟨i, r, j, xs, v, (key _ _ _ _ _ _ h1).1, h2⟩)
  refine hrh.hid.via (fun a b => a = b) (by simp) (fun i r j own xs v hc => ⟨i, own, rfl, (key _ _ _ _ _ _ hc).1, id, fun rb' hi _ => setRow_other w rb rb' cs' fun e' => ?_⟩) (fun _ _ _ _ _ _ _ _ _ _ _ _ _ _ a b => by rw [a, b]) fun i q c rb' h1 h2 h3 => .inr ?_
  · subst e'
    exact hrh.hid.s1 b p blk _ hp hH ho hb _ _ _ _ _ _ (key _ _ _ _ _ _ hc).1 hi
  · rcases getElem?_snoc h1 with ⟨g1, hi⟩ | ⟨hi, rfl⟩
    · rcases getElem?_snoc h2 with ⟨g2, _⟩ | ⟨hi', _⟩
      · rw [List.getElem?_set] at g2
        split at g2
        · split at g2 <;> cases g2
        · exact ⟨i, q, c, g1, h3, g2, id⟩
      · simp at hi'; omega
    · exact ⟨b, q, blk, hp, h3, hH, fun _ => ho⟩

theorem zeroCells_one {z : Value} (hz1 : ∀ v ∈ z.cells.toList, v.oneCell' = true) (n : Nat) : ∀ v ∈ (Builtin.zeroCells z.cells n).toList, v.oneCell' = true := by
  intro v hv
  simp only [Builtin.zeroCells, Array.toList_map, List.mem_map, Array.toList_range, List.mem_range] at hv
  obtain ⟨i, hi, rfl⟩ := hv
  have hpos : 0 < z.cells.size := by
    rcases Nat.eq_zero_or_pos z.cells.size with h | h
    · rw [h] at hi; omega
    · exact h
  have hm : i % z.cells.size < z.cells.size := Nat.mod_lt _ hpos
  rw [getElem!_pos z.cells (i % z.cells.size) hm]
  exact hz1 _ (by simp)

/-- A new block for what was there and what is appended. -/
theorem append_fresh {H : Heap} (hrh : RH ι H w) {t ty e : TypeId} {i : TypeInfo} {z : Value} (ht : P.underlying t = some (.slice e)) (hi : P.info? e = some i) (hz : i.zero = some z) (hzs : z.cells.size = i.size)
    (hz1 : ∀ v ∈ z.cells.toList, v.oneCell' = true) (base : Option Addr) (sLen sCap : Nat)
    (x' : Value) (xb : Option Addr) (n xc : Nat) (hx : x' = .slice xb n xc) (news olds : List Value) (c : Cont) (hsz : c.sz = i.size) (hrows : c.rows = sLen + n)
    (hf : (Builtin.firstCells i.size n x').run P w.drew = .ok ⟨news⟩ w.drew) (hfo : (Builtin.firstCells i.size sLen (.slice base sLen sCap)).run P w.drew = .ok ⟨olds⟩ w.drew)
    (hln : news.length = n * i.size) (hlo : olds.length = sLen * i.size) (h1 : ∀ u ∈ news, u.oneCell' = true) (h2 : ∀ u ∈ olds, u.oneCell' = true)
    (hlen : ∀ r, r < c.rows → (c.row r).length = c.sz)
    (hc : ∀ r j, r < c.rows → j < c.sz → ∃ v u, (olds ++ news)[r * c.sz + j]? = some v ∧ (c.row r)[j]? = some u ∧ VR ι u v)
    (hg : sCap < sLen + n) (hb : sLen + n ≤ 1073741824) (hby : i.bytes ≤ 1024) (hpl : c.plainC = true) :
    Runs P (Builtin.append_ #[t, t] ty #[.slice base sLen sCap, x']) ι H w (.slice (some ⟨H.length, 0, none⟩) (sLen + n) 1) (H ++ [some ⟨true, c⟩]) := by
  have hr := run_append_more (P := P) (w := w) (ty := ty) ht hi hz base sLen sCap x' xb n xc hx news olds hf hfo hg hb hby
  have hge := grownCap_ge w (sLen + n) sCap e
  have hd : Drawn w w.drew := ⟨1, rfl⟩
  have hrd := hrh.drawn hd
  have hext := Ext.alloc hrd c (olds ++ news ++ (Builtin.zeroCells z.cells (grownCap w (sLen + n) sCap e - (sLen + n))).toList).toArray e (grownCap w (sLen + n) sCap e) (by omega)
    (by
      simp only [List.size_toArray, List.length_append, hln, hlo, Array.length_toList, size_zeroCells, hzs, hsz, ← Nat.add_mul]
      congr 1; omega) hlen
    (fun j v hv => by
      rw [List.getElem?_toArray] at hv
      have hm := List.mem_of_getElem? hv
      simp only [List.mem_append] at hm
      rcases hm with (hm | hm) | hm
      · exact h2 v hm
      · exact h1 v hm
      · exact zeroCells_one hz1 _ v hm)
    (fun r j hr' hj => by
      obtain ⟨v, u, g1, g2, g3⟩ := hc r j hr' hj
      refine ⟨v, u, ?_, g2, g3⟩
      rw [List.getElem?_toArray, List.getElem?_append_left (some_lt g1)]
      exact g1) hpl
  refine ⟨_, _, _, hr, ?_, (Ext.drawn hrh hd).trans hext⟩
  have := VR.slice (ι := ι ++ [⟨some w.heap.size, 0, c.sz, grownCap w (sLen + n) sCap e⟩]) (b := H.length) (i := 0) (l := sLen + n) (c := 1) (c' := grownCap w (sLen + n) sCap e)
    (getElem?_new _ _ _ hrh.len) rfl hge (by simp) (by omega)
  simpa using this

set_option maxHeartbeats 2000000 in
theorem evAppend_sound {H H' : Heap} (hrh : RH ι H w) {t ty : TypeId} {s x s' x' v : Value} {whole : Bool} {vc : List Prop} (h : evAppend P H t s x whole = some (v, H', vc)) (hv : AllP vc) (hs : VR ι s s') (hx : VR ι x x') :
    Runs P (Builtin.append_ #[t, t] ty #[s', x']) ι H w v H' := by
  unfold evAppend at h
  split at h
  · rename_i el cx n vc0 hu hsrc
    split at h
    · rename_i i hi
      cases hcnd : (Nat.beq cx.sz i.size && Nat.blt 0 i.size && Nat.ble i.bytes 1024 && i.zero.isSome && Nat.beq (i.zero.getD undef).cells.size i.size && allP one1 (cellsV (i.zero.getD undef))) with
      | false => simp [hcnd] at h
      | true =>
        simp only [hcnd, cond_true] at h
        simp only [Bool.and_eq_true] at hcnd
        obtain ⟨⟨⟨⟨⟨hsz, hpos⟩, hby⟩, hzs⟩, hzz⟩, hzo⟩ := hcnd
        have hsz := Nat.eq_of_beq_eq_true hsz
        have hpos : 0 < i.size := Nat.le_of_ble_eq_true hpos
        have hby := Nat.le_of_ble_eq_true hby
        obtain ⟨z, hz⟩ := Option.isSome_iff_exists.1 hzs
        rw [hz] at hzz hzo
        have hzz : z.cells.size = i.size := Nat.eq_of_beq_eq_true hzz
        have hzo := one1_cells hzo
        -- a slice without room, of no element
        have fresh : ∀ (base : Option Addr), s' = .slice base 0 0 → AllP vc0 → n ≤ 1073741824 → Runs P (Builtin.append_ #[t, t] ty #[s', x']) ι H w (.slice (some ⟨H.length, 0, none⟩) n 1) (H ++ [some ⟨true, cx⟩]) := by
          intro base hb hv0 hn
          subst hb
          obtain ⟨xb, xc, news, rfl, r1, r2, r3, r4, r5, r6⟩ := srcCont_sound (P := P) hrh hsrc hv0 hx (by omega)
          rcases Nat.eq_zero_or_pos n with h0 | h0
          · subst h0
            refine ⟨_, _, _, run_append_none hu hi base xb 0 0 xc (Nat.le_refl 0), .slice0 (fun h => absurd h (by decide)), Ext.empty hrh cx true r1 (srcCont_plain hsrc hv0)⟩
          · have := append_fresh (P := P) hrh (ty := ty) hu hi hz hzz hzo base 0 0 (.slice xb n xc) xb n xc rfl news [] cx hsz (by omega) (by rw [← hsz]; exact r4 w.drew rfl) (run_firstCells_zero _ _ _ _ _) (by rw [← hsz]; exact r3) (by simp) r5 (by simp)
              (fun r hr => r2 r (by omega)) (fun r j hr hj => by simpa using r6 r j (by omega) hj) (by omega) (by omega) hby (srcCont_plain hsrc hv0)
            simpa using this
        split at h
        · simp only [Option.some.injEq, Prod.mk.injEq] at h
          obtain ⟨rfl, rfl, rfl⟩ := h
          obtain ⟨hv0, hv1⟩ := allP_append _ _ hv
          cases hs
          exact fresh none rfl hv0 hv1.1
        · rename_i b r l cap
          cases hroom : (Nat.beq cap 0 && Nat.beq l 0) with
          | true =>
            simp only [hroom, cond_true] at h
            simp only [Bool.and_eq_true] at hroom
            have hc0 := Nat.eq_of_beq_eq_true hroom.1
            have hl0 := Nat.eq_of_beq_eq_true hroom.2
            subst hc0; subst hl0
            simp only [Option.some.injEq, Prod.mk.injEq] at h
            obtain ⟨rfl, rfl, rfl⟩ := h
            obtain ⟨hv0, hv1⟩ := allP_append _ _ hv
            cases hs with
            | slice hp hb hl hc h0 => have := h0 rfl; subst this; exact fresh _ rfl hv0 hv1.1
            | slice0 => exact fresh _ rfl hv0 hv1.1
          | false =>
          simp only [hroom, cond_false] at h
          split at h
          · rename_i blk hblk
            rw [blkAt_eq] at hblk
            cases ho : blk.own with
            | false => simp [ho] at h
            | true =>
              simp only [ho, cond_true] at h
              split at h
              · rename_i cs vc' hcut
                split at h
                · rename_i c happ
                  simp only [Option.some.injEq, Prod.mk.injEq] at h
                  obtain ⟨rfl, rfl, rfl⟩ := h
                  obtain ⟨hv0, hv2⟩ := allP_append _ _ hv
                  obtain ⟨hv0, hv1⟩ := allP_append _ _ hv0
                  obtain ⟨hr0, hcs0, hlr⟩ := cut_spec hcut hv1
                  subst hr0
                  subst hcs0
                  obtain ⟨a1, a2, a3, a4⟩ := app_spec happ
                  obtain ⟨xb, xc, news, hxe, r1, r2, r3, r4, r5, r6⟩ := srcCont_sound (P := P) hrh hsrc hv0 hx (by omega)
                  rw [setAt_eq]
                  have hkill := Ext.kill hrh b
                  have hlen : (H.set b none).length = H.length := by simp
                  -- both parts, in the real world
                  have hboth : ∀ olds : List Value, olds.length = blk.c.rows * cx.sz → (∀ i j, i < blk.c.rows → j < cx.sz → ∃ v u, olds[i * cx.sz + j]? = some v ∧ (blk.c.row i)[j]? = some u ∧ VR ι u v) →
                      ∀ r j, r < c.rows → j < c.sz → ∃ v u, (olds ++ news)[r * c.sz + j]? = some v ∧ (c.row r)[j]? = some u ∧ VR ι u v := by
                    intro olds ho1 ho2 r j hr hj
                    rw [a4 r]
                    have e : c.sz = cx.sz := by omega
                    rw [e] at hj ⊢
                    by_cases hr1 : r < blk.c.rows
                    · obtain ⟨v, u, g1, g2, g3⟩ := ho2 r j hr1 hj
                      exact ⟨v, u, by rw [List.getElem?_append_left (some_lt g1)]; exact g1, by rw [if_pos hr1]; exact g2, g3⟩
                    · obtain ⟨v, u, g1, g2, g3⟩ := r6 (r - blk.c.rows) j (by omega) hj
                      refine ⟨v, u, ?_, by rw [if_neg hr1]; exact g2, g3⟩
                      have e2 : r * cx.sz + j = olds.length + ((r - blk.c.rows) * cx.sz + j) := by
                        rw [ho1, ← Nat.add_assoc, ← Nat.add_mul]; congr 2; omega
                      rw [e2, List.getElem?_append_right (by omega)]
                      simpa using g1
                  have hclen : (∀ r, r < blk.c.rows → (blk.c.row r).length = blk.c.sz) → ∀ r, r < c.rows → (c.row r).length = c.sz := by
                    intro hlb r hr
                    rw [a4 r]
                    split
                    · rename_i h'; rw [hlb r h', a2]
                    · rw [r2 _ (by omega), a1, a2]
                  have after : ∀ {m : Sem Value} {u : Value} {H1 : Heap}, Runs P m ι (H.set b none) w u H1 → Runs P m ι H w u H1 :=
                    fun ⟨ι', v', w', g1, g2, g3⟩ => ⟨ι', v', w', g1, g2, hkill.trans g3⟩
                  cases hs with
                  | slice0 =>
                    -- nothing was there
                    rename_i xs _
                    have hr0 : blk.c.rows = 0 := hlr.symm
                    rw [Nat.zero_add]
                    rcases Nat.eq_zero_or_pos n with h0 | h0
                    · subst h0
                      subst hxe
                      have he := Ext.empty hkill.rh c true (by omega) (app_plain happ)
                      exact ⟨_, _, _, run_append_none hu hi xs xb 0 0 xc (Nat.le_refl 0), .slice0 (fun h => absurd h (by decide)), hkill.trans he⟩
                    · have := append_fresh (P := P) hkill.rh (ty := ty) hu hi hz hzz hzo xs 0 0 x' xb n xc hxe news [] c (by omega) (by omega) (by rw [← hsz]; exact r4 w.drew rfl) (run_firstCells_zero _ _ _ _ _) (by rw [← hsz]; exact r3) (by simp) r5 (by simp)
                        (hclen fun r hr => by omega) (hboth [] (by simp [hr0]) fun i j hi => by omega) (by omega) (by have := hv2.1; omega) hby (app_plain happ)
                      rw [hlen, Nat.zero_add] at this
                      exact after this
                  | slice hp hb hl hc h0 =>
                    rename_i c' p rb
                    have hbk := hrh.blk b p blk hp hblk
                    obtain ⟨hbase, hcap, cur, e', hcur, hcsz, hcone⟩ := hbk.own ho rb hb
                    have hps := hbk.sz
                    have haddr : (⟨rb, p.base + 0 * p.sz, none⟩ : Addr) = ⟨rb, 0, none⟩ := by rw [hbase]; simp
                    rw [haddr]
                    by_cases hfit : l + n ≤ c'
                    · -- in its place
                      have hcsz2 : c' * i.size ≤ cur.size := by
                        rw [hcsz, hps, ← a1, hsz]
                        exact Nat.mul_le_mul_right _ (by omega)
                      have hrun := run_append_fit (P := P) (ty := ty) hu hi rb l c' hcur x' xb n xc hxe news (by rw [← hsz]; exact r4 w rfl) (by rw [← hsz]; exact r3) r5 hfit hcsz2
                      have hfit3 : l * i.size + news.length ≤ cur.toList.length := by
                        have := Nat.mul_le_mul_right i.size hfit
                        rw [Nat.add_mul] at this
                        rw [r3, hsz]
                        simp only [Array.length_toList]; omega
                      have hext := Ext.inplace hrh (c' := c) (cs' := (splice cur.toList (l * i.size) news).toArray) hp hblk ho hb hcur
                        (by simp only [List.size_toArray]; rw [length_splice _ _ _ hfit3]; simp)
                        (fun j u hu' => by
                          rw [List.getElem?_toArray, getElem?_splice _ _ _ hfit3] at hu'
                          split at hu'
                          · exact r5 u (List.mem_of_getElem? hu')
                          · exact hcone j u (by simpa using hu'))
                        (by omega) a2 (hclen hbk.len)
                        (fun r j hr hj => by
                          rw [List.getElem?_toArray, getElem?_splice _ _ _ hfit3]
                          have e : c.sz = i.size := by omega
                          have e3 : p.sz = i.size := by omega
                          rw [e3]
                          rw [e] at hj
                          rw [a4 r]
                          by_cases hr1 : r < blk.c.rows
                          · rw [if_neg (by
                              intro hh
                              have := Nat.mul_le_mul_right i.size (show r + 1 ≤ l by omega)
                              rw [Nat.add_mul] at this
                              omega), if_pos hr1]
                            obtain ⟨rb', cs2, e2, f2, v2, u2, q1, q2, q3, q4, q5, _⟩ := hbk.cells r j hr1 (by omega)
                            rw [hb] at q1; cases q1
                            rw [hcur] at q2; cases q2
                            rw [hbase, e3] at q3
                            exact ⟨v2, u2, by simpa using q3, q4, q5⟩
                          · obtain ⟨v2, u2, g1, g2, g3⟩ := r6 (r - blk.c.rows) j (by omega) (by omega)
                            rw [hsz] at g1
                            have e2 : r * i.size + j = l * i.size + ((r - blk.c.rows) * i.size + j) := by
                              rw [← Nat.add_assoc, ← Nat.add_mul]; congr 2; omega
                            have hlt := some_lt g1
                            rw [e2, if_pos ⟨by omega, by omega⟩, if_neg hr1]
                            refine ⟨v2, u2, ?_, g2, g3⟩
                            rw [← g1]; congr 1; omega) (app_plain happ)
                      refine ⟨_, _, _, hrun, ?_, hext⟩
                      have := VR.slice (ι := ι ++ [p]) (b := H.length) (i := 0) (l := l + n) (c := 1) (c' := c') (getElem?_new _ _ _ hrh.len) hb hfit (by omega) (by omega)
                      rw [haddr] at this
                      exact this
                    · obtain ⟨olds, o1, o2, o3, o4⟩ := run_rows (P := P) (r := 0) (n := blk.c.rows) hrh hp hblk hb (by omega) (by omega)
                      rw [haddr] at o2
                      have hpsz : blk.c.sz = i.size := by omega
                      have hfo : (Builtin.firstCells i.size l (.slice (some ⟨rb, 0, none⟩) l c')).run P w.drew = .ok ⟨olds⟩ w.drew :=
                        run_firstCells_load _ _ _ _ _ _ _ (by rw [hlr, ← hpsz]; exact o2 w.drew rfl)
                      have := append_fresh (P := P) hkill.rh (ty := ty) hu hi hz hzz hzo (some ⟨rb, 0, none⟩) l c' x' xb n xc hxe news olds c (by omega) (by omega) (by rw [← hsz]; exact r4 w.drew rfl) hfo (by rw [← hsz]; exact r3)
                        (by rw [o1, hlr, hpsz]) r5 o3 (hclen hbk.len)
                        (hboth olds (by rw [o1, a1]) fun i j hi hj => by
                          rw [a1] at hj ⊢
                          have := o4 i j hi hj
                          rwa [Nat.zero_add] at this) (by omega) (by have := hv2.1; omega) hby (app_plain happ)
                      rw [hlen] at this
                      exact after this
                · cases h
              · cases h
          · cases h
        · cases h
    · cases h
  · cases h

/-! ### Copies of a slice into another -/

theorem run_copy {t ty e e' : TypeId} {ts : List TypeId} {i : TypeInfo} (ht : P.underlying t = some (.slice e)) (hi : P.info? e = some i) (g dLen dCap : Nat) {cur : Array Value} (hg : w.heap[g]? = some (.cells cur e' (0, 0)))
    (x' : Value) (xb : Option Addr) (n xc : Nat) (hx : x' = .slice xb n xc) (news : List Value) (hf : (Builtin.firstCells i.size n x').run P w = .ok ⟨news⟩ w) (hl : news.length = n * i.size) (h1 : ∀ u ∈ news, u.oneCell' = true)
    (hn : n ≤ dLen) (hfit : n * i.size ≤ cur.size) :
    (Builtin.copy_ ⟨t :: ts⟩ ty ⟨[.slice (some ⟨g, 0, none⟩) dLen dCap, x']⟩).run P w = .ok (.int .i64 (n : Int)) (w.setRow g (splice cur.toList 0 news).toArray) := by
  subst hx
  have hst := run_storeCells_at P g 0 e' news 0 cur w hg (by simpa [hl] using hfit) h1
  simp only [Nat.add_zero] at hst
  have hmin : Nat.min n dLen = n := Nat.min_eq_left hn
  have hmin2 : min n dLen = n := Nat.min_eq_left hn
  simp [Builtin.copy_, run_underlying ht, sizeOf, typeInfo, hi, Builtin.lenOf, hmin, hmin2, hf, goInt]
  rw [hst]
  rfl

theorem evCopy_sound {H H' : Heap} (hrh : RH ι H w) {t ty : TypeId} {ts : List TypeId} {d x d' x' v : Value} {vc : List Prop} (h : evCopy P H t d x = some (v, H', vc)) (hv : AllP vc) (hd : VR ι d d') (hx : VR ι x x') :
    Runs P (Builtin.copy_ ⟨t :: ts⟩ ty ⟨[d', x']⟩) ι H w v H' := by
  unfold evCopy at h
  split at h
  · rename_i el cx n vc0 b r l cap hu hsrc
    split at h
    · rename_i i blk hi hblk
      rw [blkAt_eq] at hblk
      cases hcnd : (Nat.beq cx.sz i.size && Nat.blt 0 i.size && blk.own) with
      | false => simp [hcnd] at h
      | true =>
        simp only [hcnd, cond_true] at h
        simp only [Bool.and_eq_true] at hcnd
        obtain ⟨⟨hsz, hpos⟩, ho⟩ := hcnd
        have hsz := Nat.eq_of_beq_eq_true hsz
        have hpos : 0 < i.size := Nat.le_of_ble_eq_true hpos
        split at h
        · rename_i c0 vc1 cr vc2 hcut hpart
          split at h
          · rename_i c happ
            simp only [Option.some.injEq, Prod.mk.injEq] at h
            obtain ⟨rfl, rfl, rfl⟩ := h
            obtain ⟨hv0, hv3⟩ := allP_append _ _ hv
            obtain ⟨hv0, hv2⟩ := allP_append _ _ hv0
            obtain ⟨hv0, hv1⟩ := allP_append _ _ hv0
            obtain ⟨hr0, hcs0, hlr⟩ := cut_spec hcut hv1
            subst hr0
            obtain ⟨p1, p2, p3, p4⟩ := part_spec hpart hv2
            obtain ⟨a1, a2, a3, a4⟩ := app_spec happ
            have hnl : n ≤ l := hv3.1
            have hl0 : 0 < l := hv3.2.1
            obtain ⟨xb, xc, news, hxe, r1, r2, r3, r4, r5, r6⟩ := srcCont_sound (P := P) hrh hsrc hv0 hx (by omega)
            rw [setAt_eq]
            cases hd with
            | slice0 => omega
            | slice hp hb hl hc h0 =>
              rename_i c' p rb
              have hbk := hrh.blk b p blk hp hblk
              obtain ⟨hbase, hcap, cur, e', hcur, hcsz, hcone⟩ := hbk.own ho rb hb
              have hps := hbk.sz
              have haddr : (⟨rb, p.base + 0 * p.sz, none⟩ : Addr) = ⟨rb, 0, none⟩ := by rw [hbase]; simp
              rw [haddr]
              have hisz : blk.c.sz = i.size := by omega
              have hfit : n * i.size ≤ cur.size := by
                rw [hcsz, hps, hisz]
                exact Nat.mul_le_mul_right _ (by omega)
              have hrun := run_copy (P := P) (ty := ty) (ts := ts) hu hi rb l c' hcur x' xb n xc hxe news (by rw [← hsz]; exact r4 w rfl) (by rw [← hsz]; exact r3) r5 hnl hfit
              have hfit3 : 0 + news.length ≤ cur.toList.length := by
                rw [r3, hsz]; simp only [Array.length_toList]; omega
              have hcr : c.rows = blk.c.rows := by omega
              have hext := Ext.put hrh (c' := c) (cs' := (splice cur.toList 0 news).toArray) hp hblk ho hb hcur
                (by simp only [List.size_toArray]; rw [length_splice _ _ _ hfit3]; simp)
                (fun j u hu' => by
                  rw [List.getElem?_toArray, getElem?_splice _ _ _ hfit3] at hu'
                  split at hu'
                  · exact r5 u (List.mem_of_getElem? hu')
                  · exact hcone j u (by simpa using hu'))
                hcr (by omega)
                (fun r hr => by
                  rw [a4 r]
                  split
                  · rename_i h'; rw [r2 _ (by omega)]; omega
                  · rw [p4 _ (by omega)]; exact hbk.len _ (by omega))
                (fun r j hr hj => by
                  rw [List.getElem?_toArray, getElem?_splice _ _ _ hfit3]
                  have e3 : p.sz = i.size := by omega
                  rw [e3]
                  rw [hisz] at hj
                  rw [a4 r]
                  by_cases hr1 : r < n
                  · obtain ⟨v2, u2, g1, g2, g3⟩ := r6 r j hr1 (by omega)
                    rw [hsz] at g1
                    have hlt := some_lt g1
                    rw [if_pos ⟨by omega, by omega⟩, if_pos (by omega)]
                    exact ⟨v2, u2, by simpa using g1, g2, g3⟩
                  · rw [if_neg (by
                      intro hh
                      have := Nat.mul_le_mul_right i.size (show n ≤ r by omega)
                      rw [r3, hsz] at hh
                      omega), if_neg (by omega)]
                    obtain ⟨rb', cs2, e2, f2, v2, u2, q1, q2, q3, q4, q5, _⟩ := hbk.cells r j hr (by omega)
                    rw [hb] at q1; cases q1
                    rw [hcur] at q2; cases q2
                    rw [hbase, e3] at q3
                    refine ⟨v2, u2, by simpa using q3, ?_, q5⟩
                    rw [p4 _ (by omega), r1, show n + (r - n) = r by omega]; exact q4) (app_plain happ)
              exact ⟨_, _, _, hrun, .int .i64 _, hext⟩
          · cases h
        · cases h
    · cases h
  · cases h

end
end Go.Sim
