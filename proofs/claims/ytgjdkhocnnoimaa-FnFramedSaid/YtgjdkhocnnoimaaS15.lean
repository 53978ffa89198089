/- A pure account of the values, floats and memory of a run, and how it stands to the model's (part 15: one run in the order of the text serves every order). Conditions: none. -/
import Derived.Test.YtgjdkhocnnoimaaS14
namespace Go.Sim
open Go

/-! ### An operation depends on what it looks at -/

def opTmps (o : Op) : List Nat := o.operands.toList.filterMap fun | .tmp t => some t | _ => none

/-- The values of some temporaries. -/
def onlyE (ts : List Nat) : Env → Env
  | [] => []
  | (t, v) :: e => bif ts.contains t then (t, v) :: onlyE ts e else onlyE ts e

theorem look_onlyE (ts : List Nat) (t : Nat) : ∀ e : Env, look t (onlyE ts e) = if t ∈ ts then look t e else none
  | [] => by simp [onlyE, look]
  | (u, v) :: e => by
    have ih := look_onlyE ts t e
    simp only [onlyE]
    cases hc : ts.contains u with
    | true =>
      have hu : u ∈ ts := by simpa using hc
      simp only [cond_true, look]
      cases hb : Nat.beq t u with
      | true => have := Nat.eq_of_beq_eq_true hb; subst this; simp [hu]
      | false => simpa using ih
    | false =>
      have hu : u ∉ ts := by simpa using hc
      simp only [cond_false, look]
      cases hb : Nat.beq t u with
      | true => have := Nat.eq_of_beq_eq_true hb; subst this; rw [ih]; simp [hu]
      | false => simpa using ih

theorem evx_onlyE {ts : List Nat} {e : Env} {x : Operand} (h : ∀ t, x = .tmp t → t ∈ ts) : evx (onlyE ts e) x = evx e x := by
  cases x with
  | tmp t => simp only [evx]; rw [look_onlyE, if_pos (h t rfl)]
  | _ => rfl

theorem evxs_onlyE {ts : List Nat} {e : Env} : ∀ {l : List Operand}, (∀ t, Operand.tmp t ∈ l → t ∈ ts) → evxs (onlyE ts e) l = evxs e l
  | [], _ => rfl
  | x :: l, h => by
    simp only [evxs]
    rw [evx_onlyE (fun t ht => h t (by rw [ht]; exact List.mem_cons_self ..)), evxs_onlyE fun t ht => h t (List.mem_cons_of_mem _ ht)]

theorem evParts_onlyE {ts : List Nat} {e : Env} : ∀ {l : List (Nat × Operand)}, (∀ t, Operand.tmp t ∈ l.map (·.2) → t ∈ ts) → evParts (onlyE ts e) l = evParts e l
  | [], _ => rfl
  | (i, x) :: l, h => by
    simp only [evParts]
    rw [evx_onlyE (fun t ht => h t (by simp [ht])), evParts_onlyE fun t ht => h t (by simp only [List.map_cons, List.mem_cons]; exact .inr ht)]

theorem mem_opTmps {o : Op} {t : Nat} (h : Operand.tmp t ∈ o.operands.toList) : t ∈ opTmps o := List.mem_filterMap.2 ⟨_, h, rfl⟩

theorem evOpt_onlyE {ts : List Nat} {e : Env} {x : Option Operand} (h : ∀ t, x = some (.tmp t) → t ∈ ts) : evOpt (onlyE ts e) x = evOpt e x := by
  cases x with
  | none => rfl
  | some x => simp only [evOpt]; rw [evx_onlyE fun t ht => h t (by rw [ht])]

theorem evOp_onlyE (P : Program) (o : Op) (ts : List Nat) (hts : ∀ t ∈ opTmps o, t ∈ ts) (e : Env) (H : Heap) (os : List Orc) : evOp P o (onlyE ts e) H os = evOp P o e H os := by
  have hx : ∀ x, x ∈ o.operands.toList → evx (onlyE ts e) x = evx e x := fun x hx => evx_onlyE fun t ht => hts t (mem_opTmps (by rw [← ht]; exact hx))
  cases o <;> simp only [evOp, Op.operands] at hx ⊢
  case move x => rw [hx x (by simp)]
  case assign x => rw [hx x (by simp)]
  case pick c a b =>
    rw [hx c (by simp)]
    split
    · rename_i t t' r _ _
      congr 2
      cases t'
      · exact hx b (by simp)
      · exact hx a (by simp)
    · rfl
  case box t x => rw [hx x (by simp)]
  case build t ps => rw [evParts_onlyE fun t ht => hts t (mem_opTmps (by simpa [Op.operands] using ht))]
  case buildSlice t n ps => rw [evParts_onlyE fun t ht => hts t (mem_opTmps (by simpa [Op.operands] using ht))]
  case load t a => rw [hx a (by simp)]
  case store t a x => rw [hx a (by simp), hx x (by simp)]
  case nilCheck x => rw [hx x (by simp)]
  case binOp op t x y yt => rw [hx x (by simp), hx y (by simp)]
  case unOp op t x => rw [hx x (by simp)]
  case convert s d x => rw [hx x (by simp)]
  case makeFunc fn fs cs =>
    rw [evxs_onlyE fun t ht => hts t (mem_opTmps (by simp only [Op.operands, Array.toList_append, List.mem_append]; exact .inl ht)),
      evxs_onlyE fun t ht => hts t (mem_opTmps (by simp only [Op.operands, Array.toList_append, List.mem_append]; exact .inr ht))]
  case makeSlice t l c => rw [hx l (by simp), hx c (by simp)]
  case slice t x lo hi mx =>
    rw [hx x (by simp), evOpt_onlyE fun t ht => hts t (mem_opTmps (by simp [Op.operands, ht])), evOpt_onlyE fun t ht => hts t (mem_opTmps (by simp [Op.operands, ht])), evOpt_onlyE fun t ht => hts t (mem_opTmps (by simp [Op.operands, ht]))]
  case fieldAddr t x f => rw [hx x (by simp)]
  case field t x f => rw [hx x (by simp)]
  case indexAddr t x i => rw [hx x (by simp), hx i (by simp)]
  case index t x i => rw [hx x (by simp), hx i (by simp)]
  case extract x i => rw [hx x (by simp)]
  case call c =>
    obtain ⟨callee, args, ts'⟩ := c
    cases callee with
    | builtin b => simp only; rw [evxs_onlyE fun t ht => hts t (mem_opTmps (by simpa [Op.operands, Call.operands] using ht))]
    | value f =>
      simp only
      rw [hx f (by simp [Call.operands]), evxs_onlyE fun t ht => hts t (mem_opTmps (by simp only [Op.operands, Call.operands, Array.toList_append, List.mem_append]; exact .inr ht))]
    | invoke r m => rfl

theorem rv_hp {v : Value} {H : Heap} {os : List Orc} {vc : List Prop} {r : Res} (h : rv v H os vc = some r) : r.hp = H := (rv_some h).2.1

/-- What does not turn memory. -/
theorem evOp_quiet {P : Program} {o : Op} {e : Env} {H : Heap} {os : List Orc} {r : Res} (he : isEff o = false) (h : evOp P o e H os = some r) : r.hp = H := by
  cases o <;> simp only [evOp] at h <;> simp only [isEff] at he <;> try (cases h; done)
  all_goals try (cases he; done)
  case move x => exact (vo_some h).2
  case assign x => exact (vo_some h).2
  case pick c a b =>
    split at h
    · exact (vp_some h).2
    · cases h
  case build t ps =>
    split at h
    · exact (vo_some h).2
    · cases h
  case load t x =>
    split at h
    · exact (vp_some h).2
    · cases h
  case nilCheck x =>
    split at h
    · exact rv_hp h
    · exact rv_hp h
    · cases h
  case binOp =>
    split at h
    · exact (vp_some h).2
    · cases h
  case unOp =>
    split at h
    · exact (vp_some h).2
    · cases h
  case convert =>
    split at h
    · exact (vp_some h).2
    · cases h
  case makeFunc =>
    split at h
    · exact rv_hp h
    · cases h
  case slice =>
    split at h
    · exact (vp_some h).2
    · cases h
  case fieldAddr =>
    split at h
    · exact (vo_some h).2
    · cases h
  case field =>
    split at h
    · exact (vo_some h).2
    · cases h
  case indexAddr =>
    split at h
    · exact (vp_some h).2
    · cases h
  case index t x i =>
    split at h
    · cases hs : isStrT P t with
      | false => simp [hs] at h
      | true => simp only [hs, cond_true] at h; exact rv_hp h
    · cases h
  case extract =>
    split at h
    · exact (vo_some h).2
    · cases h
  case call c =>
    obtain ⟨callee, args, ts⟩ := c
    cases callee with
    | builtin b =>
      simp only at h
      split at h
      · unfold evBuiltin at h
        split at h
        · exact (vo_some h).2
        · simp at he
        · simp at he
        · exact (vo_some h).2
        · exact (vo_some h).2
        · exact rv_hp h
        · exact rv_hp h
        · generalize sameF _ _ = q at h
          cases q with
          | false => cases h
          | true => exact rv_hp h
        · cases h
      · cases h
    | value f => simp at he
    | invoke r m => simp only at h; cases h

/-- What neither turns nor looks at memory gives the same at another one. -/
theorem evOp_pure {P : Program} {o : Op} {e : Env} {H : Heap} {os : List Orc} {r : Res} (he : isEff o = false) (hr : isRead o = false) (h : evOp P o e H os = some r) (H2 : Heap) : evOp P o e H2 os = some { r with hp := H2 } := by
  have hvo : ∀ {x : Option Value} {os : List Orc}, vo x H os = some r → vo x H2 os = some { r with hp := H2 } := by
    intro x os h
    cases x with
    | none => cases h
    | some v => simp [vo] at h; subst h; rfl
  have hvp : ∀ {x : Option (Value × List Prop)} {os : List Orc}, vp x H os = some r → vp x H2 os = some { r with hp := H2 } := by
    intro x os h
    cases x with
    | none => cases h
    | some v => obtain ⟨v, vc⟩ := v; simp [vp] at h; subst h; rfl
  have hrv : ∀ {v : Value} {os : List Orc} {vc : List Prop}, rv v H os vc = some r → rv v H2 os vc = some { r with hp := H2 } := by
    intro v os vc h
    simp [rv] at h; subst h; rfl
  cases o <;> simp only [evOp] at h ⊢ <;> simp only [isEff, isRead] at he hr <;> try (cases h; done)
  all_goals try (cases he; done)
  all_goals try (cases hr; done)
  case move x => exact hvo h
  case assign x => exact hvo h
  case pick c a b =>
    split at h
    · exact hvp h
    · cases h
  case build t ps =>
    split at h
    · exact hvo h
    · cases h
  case nilCheck x =>
    split at h
    · exact hrv h
    · exact hrv h
    · cases h
  case binOp =>
    split at h
    · exact hvp h
    · cases h
  case unOp =>
    split at h
    · exact hvp h
    · cases h
  case convert =>
    split at h
    · exact hvp h
    · cases h
  case makeFunc =>
    split at h
    · exact hrv h
    · cases h
  case fieldAddr =>
    split at h
    · exact hvo h
    · cases h
  case field =>
    split at h
    · exact hvo h
    · cases h
  case index t x i =>
    split at h
    · cases hs : isStrT P t with
      | false => simp [hs] at h
      | true => simp only [hs, cond_true] at h ⊢; exact hrv h
    · cases h
  case extract =>
    split at h
    · exact hvo h
    · cases h
  case call c =>
    obtain ⟨callee, args, ts⟩ := c
    cases callee with
    | builtin b =>
      simp only at h ⊢
      split at h
      · unfold evBuiltin at h ⊢
        split at h
        · exact hvo h
        · simp at he
        · simp at he
        · exact hvo h
        · exact hvo h
        · exact hrv h
        · exact hrv h
        · generalize sameF _ _ = q at h ⊢
          cases q with
          | false => cases h
          | true => exact hrv h
        · cases h
      · cases h
    | value f => simp at he
    | invoke r m => simp only at h; cases h

/-! ### The lexical run -/

/-- What the lexical run tells of operation 'i'. -/
structure TrOk (P : Program) (all : List Oper) (o : Oper) (t : Tr) : Prop where
  guard : ∃ os0 vg, guardB all o (e := t.e) os0 = some (t.g, t.os, vg) ∧ AllP vg
  run : t.g = true → ∃ r, evOp P o.op t.e t.H t.os = some r ∧ r.v = t.v ∧ r.hp = t.H' ∧ AllP r.vc
  skip : t.g = false → t.v = undef ∧ t.H' = t.H

/-! ### A block that came early -/

theorem flat1_vr {ι ι2 : List Place} {u v : Value} (hu : flat1 u = true) (h : VR ι u v) : VR ι2 u v := by
  cases h with
  | bool => exact .bool _
  | int => exact .int _ _
  | float h hb => exact .float h hb
  | complex h ha g hb => exact .complex h ha g hb
  | string => exact .string _
  | nilFunc => exact .nilFunc
  | nilp => exact .nilp
  | nils => exact .nils
  | hid => exact .hid _ _ _
  | _ => simp [flat1] at hu

theorem allP_get {p : Value → Bool} : ∀ {l : List Value} {j : Nat} {u : Value}, allP p l = true → l[j]? = some u → p u = true
  | [], j, u, _, h => by simp at h
  | v :: l, 0, u, h, hj => by
    simp only [allP, Bool.and_eq_true] at h
    simp at hj; subst hj; exact h.1
  | v :: l, j + 1, u, h, hj => by
    simp only [allP, Bool.and_eq_true] at h
    exact allP_get h.2 (by simpa using hj)

theorem flatC_row {c : Cont} {r j : Nat} {u : Value} (hc : flatC c = true) (h : (c.row r)[j]? = some u) : flat1 u = true := by
  have one : ∀ {v : Value}, flat1 v = true → [v][j]? = some u → flat1 u = true := by
    intro v hv hj
    cases j with
    | zero => simp at hj; subst hj; exact hv
    | succ j => simp at hj
  cases c with
  | fl k xs => exact one rfl h
  | it k xs => exact one rfl h
  | cx k xs => exact one rfl h
  | vs l => exact allP_get hc h
  | fn n sz g =>
    simp only [Cont.row, List.getElem?_map] at h
    cases hg : (g r)[j]? with
    | none => rw [hg] at h; cases h
    | some s =>
      rw [hg] at h
      simp only [Option.map_some, Option.some.injEq] at h
      subst h
      cases s <;> rfl
  | nst => cases hc

theorem flatC_plain {c : Cont} (h : flatC c = true) : c.plainC = true := by cases c <;> first | rfl | cases h

theorem keepsRO_get : ∀ {H H2 : Heap} {j : Nat} {c : Blk}, keepsRO H H2 = true → H2[j]? = some (some c) → c.own = true ∨ ((∃ b, H[j]? = some (some b)) ∧ (c.c.plainC = true ∨ H[j]? = some (some c)))
  | some b :: H, some c :: H2, 0, c', h, hj => by
    simp only [keepsRO, Bool.and_eq_true, Bool.or_eq_true] at h
    simp at hj; subst hj
    rcases h.1 with h1 | h1
    · exact .inl h1
    · exact .inr ⟨⟨b, rfl⟩, .inl h1⟩
  | none :: H, some c :: H2, 0, c', h, hj => by
    simp only [keepsRO, Bool.and_eq_true] at h
    simp at hj; subst hj; exact .inl h.1
  | [], some c :: H2, 0, c', h, hj => by
    simp only [keepsRO, Bool.and_eq_true] at h
    simp at hj; subst hj; exact .inl h.1
  | some b :: H, some c :: H2, j + 1, c', h, hj => by
    simp only [keepsRO, Bool.and_eq_true] at h
    simpa using keepsRO_get h.2 (by simpa using hj)
  | none :: H, some c :: H2, j + 1, c', h, hj => by
    simp only [keepsRO, Bool.and_eq_true] at h
    simpa using keepsRO_get h.2 (by simpa using hj)
  | [], some c :: H2, j + 1, c', h, hj => by
    simp only [keepsRO, Bool.and_eq_true] at h
    have := keepsRO_get (j := j) h.2 (by simpa using hj)
    simpa using this
  | x :: H, none :: H2, 0, c', h, hj => by simp at hj
  | [], none :: H2, 0, c', h, hj => by simp at hj
  | x :: H, none :: H2, j + 1, c', h, hj => by
    have h' : keepsRO H H2 = true := by cases x <;> simpa [keepsRO] using h
    simpa using keepsRO_get h' (by simpa using hj)
  | [], none :: H2, j + 1, c', h, hj => by
    have h' : keepsRO [] H2 = true := by simpa [keepsRO] using h
    have := keepsRO_get (j := j) h' (by simpa using hj)
    simpa using this
  | _, [], j, c', h, hj => by simp at hj

/-- What is only read at 'H2' stood in 'H'; and so did its slices. -/
def KeepsH (H H2 : Heap) : Prop := ∀ (j : Nat) (c : Blk), H2[j]? = some (some c) → c.own = true ∨ ((∃ b, H[j]? = some (some b)) ∧ (c.c.plainC = true ∨ H[j]? = some (some c)))

theorem KeepsH.refl (H : Heap) : KeepsH H H := fun _ c h => .inr ⟨⟨c, h⟩, .inr h⟩

theorem KeepsH.of {H H2 : Heap} (h : keepsRO H H2 = true) : KeepsH H H2 := fun _ _ hj => keepsRO_get h hj

theorem snoc_get {α : Type} {l : List α} {x y : α} {i : Nat} (h : (l ++ [x])[i]? = some y) : (i < l.length ∧ l[i]? = some y) ∨ (i = l.length ∧ y = x) := by
  rcases Nat.lt_trichotomy i l.length with q | q | q
  · rw [List.getElem?_append_left q] at h; exact .inl ⟨q, h⟩
  · subst q; simp at h; exact .inr ⟨rfl, h.symm⟩
  · rw [List.getElem?_eq_none (by simp; omega)] at h; cases h

theorem snoc_up {α : Type} {l : List α} {x y : α} {i : Nat} (e : l[i]? = some y) : (l ++ [x])[i]? = some y := by
  rw [List.getElem?_append_left (List.getElem?_eq_some_iff.1 e).1]; exact e

theorem belowH_get {n : Nat} : ∀ {H : Heap} {i : Nat} {b : Blk}, belowH n H = true → H[i]? = some (some b) → belowC n b.c = true
  | some c :: H, 0, b, h, hi => by
    simp only [belowH, Bool.and_eq_true] at h
    simp at hi; subst hi; exact h.1
  | none :: H, 0, b, h, hi => by simp at hi
  | some c :: H, i + 1, b, h, hi => by
    simp only [belowH, Bool.and_eq_true] at h
    exact belowH_get h.2 (by simpa using hi)
  | none :: H, i + 1, b, h, hi => by
    simp only [belowH] at h
    exact belowH_get h (by simpa using hi)
  | [], i, b, h, hi => by simp at hi

theorem below1_vr {ι : List Place} {p : Place} {u v : Value} (hu : below1 ι.length u = true) (h : VR (ι ++ [p]) u v) : VR ι u v := by
  cases h with
  | bool => exact .bool _
  | int => exact .int _ _
  | float h hb => exact .float h hb
  | complex h ha g hb => exact .complex h ha g hb
  | string => exact .string _
  | nilFunc => exact .nilFunc
  | nilp => exact .nilp
  | nils => exact .nils
  | hid => exact .hid _ _ _
  | ptr h1 h2 =>
    have hlt := Nat.le_of_ble_eq_true (show Nat.blt _ _ = true from hu)
    rw [List.getElem?_append_left hlt] at h1
    exact .ptr h1 h2
  | slice h1 h2 h3 h4 h5 =>
    have hlt := Nat.le_of_ble_eq_true (show Nat.blt _ _ = true from hu)
    rw [List.getElem?_append_left hlt] at h1
    exact .slice h1 h2 h3 h4 h5
  | slice0 hx => exact .slice0 hx
  | _ => simp [below1, flat1] at hu

theorem flat_below {n : Nat} {u : Value} (h : flat1 u = true) : below1 n u = true := by
  unfold below1
  split
  · simp [flat1] at h
  · simp [flat1] at h
  · exact h

theorem belowC_row {n : Nat} {c : Cont} {r j : Nat} {u : Value} (hc : belowC n c = true) (h : (c.row r)[j]? = some u) : below1 n u = true := by
  cases c with
  | vs l => exact allP_get hc h
  | nst n sz g o =>
    simp only [Cont.row, List.getElem?_map] at h
    cases hg : (g r)[j]? with
    | none => rw [hg] at h; cases h
    | some s =>
      rw [hg] at h
      simp only [Option.map_some, Option.some.injEq] at h
      subst h
      cases s with
      | c s => cases s <;> exact flat_below rfl
      | r xs => exact flat_below rfl
  | _ =>
    have := flatC_row (c := _) rfl h
    exact flat_below this

theorem belowC_via {n : Nat} {c : Cont} (hc : belowC n c = true) {r k : Nat} (h : (r, k) ∈ c.vias) : k < n := by
  cases c with
  | nst n' sz g o =>
    have key : ∀ {o : List (Nat × Nat)}, belowC.go n o = true → (r, k) ∈ o → k < n := by
      intro o
      induction o with
      | nil => intro _ h; cases h
      | cons a l ih =>
        intro h hm
        obtain ⟨a1, a2⟩ := a
        simp only [belowC.go, Bool.and_eq_true] at h
        rcases List.mem_cons.1 hm with h' | h'
        · cases h'; exact Nat.le_of_ble_eq_true h.1
        · exact ih h.2 h'
    exact key hc h
  | _ => cases h

/-- Hidden slices with one block more, or less. -/
theorem HidCell.up {ι : List Place} {H : Heap} {w : World} {p : Place} {b : Option Blk} {i r j : Nat} {own : Bool} {xs : List Nat} {v : Value} (h : HidCell ι H w i r j own xs v) : HidCell (ι ++ [p]) (H ++ [b]) w i r j own xs v := by
  obtain ⟨q, c, n, sz, g, o, rb, cs, e, f, h1, h2, h3⟩ := h
  exact ⟨q, c, n, sz, g, o, rb, cs, e, f, snoc_up h1, snoc_up h2, h3⟩

theorem HidCell.down {ι : List Place} {H : Heap} {w : World} {p : Place} {b : Blk} (hl : ι.length = H.length) (hb : b.c.plainC = true) {i r j : Nat} {own : Bool} {xs : List Nat} {v : Value} (h : HidCell (ι ++ [p]) (H ++ [some b]) w i r j own xs v) : HidCell ι H w i r j own xs v := by
  obtain ⟨q, c, n, sz, g, o, rb, cs, e, f, h1, h2, h3, h4, h5⟩ := h
  rcases snoc_get h2 with ⟨hi, g2⟩ | ⟨hi, g2⟩
  · rcases snoc_get h1 with ⟨_, g1⟩ | ⟨hi', _⟩
    · exact ⟨q, c, n, sz, g, o, rb, cs, e, f, g1, g2, h3, h4, h5⟩
    · omega
  · simp only [Option.some.injEq] at g2; subst g2
    rw [h4] at hb; cases hb

/-- Without its last block. -/
theorem RH.init {ι : List Place} {H : Heap} {w : World} {p : Place} {b : Option Blk} (h : RH (ι ++ [p]) (H ++ [b]) w) (hr : belowH ι.length H = true) : RH ι H w := by
  have hl : ι.length = H.length := by have := h.len; simpa using this
  refine ⟨hl, fun i q c hq hc => ?_, fun i j q r c d rb hq hc ho hr hd hij => h.sep i j q r c d rb (snoc_up hq) (snoc_up hc) ho (snoc_up hr) (snoc_up hd) hij, fun i q c rb hq hc => h.lt i q c rb (snoc_up hq) (snoc_up hc),
    h.hid.via (fun a b => a = b) (Nat.le_refl _) (fun i r j own xs v hc => ⟨i, own, rfl, hc.up, id, fun _ _ _ => rfl⟩) (fun _ _ _ _ _ _ _ _ _ _ _ _ _ _ a b => by rw [a, b]) fun i q c rb hq hc hrb => .inr ⟨i, q, c, snoc_up hq, hrb, snoc_up hc, id⟩⟩
  have hb := h.blk i q c (snoc_up hq) (snoc_up hc)
  refine ⟨hb.sz, hb.len, fun r j hr' hj => ?_, hb.own, fun r k hk => ?_⟩
  rotate_left
  · obtain ⟨q', k1, k2⟩ := hb.via r k hk
    have := belowC_via (belowH_get hr hc) hk
    rw [List.getElem?_append_left this] at k1
    exact ⟨q', k1, k2⟩
  obtain ⟨rb, cs, e, f, v, u, h1, h2, h3, h4, h5, h6⟩ := hb.cells r j hr' hj
  exact ⟨rb, cs, e, f, v, u, h1, h2, h3, h4, below1_vr (belowC_row (belowH_get hr hc) h4) h5, h6⟩

/-- Another operation runs ahead of the last block. -/
theorem RH.behind {ι ι' : List Place} {H H' : Heap} {w w' : World} {p : Place} {b : Blk} (h : RH (ι ++ [p]) (H ++ [some b]) w) (hb : b.own = true) (hf : flatC b.c = true) (hro : KeepsH H H') (e : Ext ι H w ι' H' w') :
    RH (ι' ++ [p]) (H' ++ [some b]) w' := by
  have hl : ι.length = H.length := by have := h.len; simpa using this
  have hl' : ι'.length = H'.length := e.rh.len
  have hpre : ∀ (i : Nat) (q : Place), ι[i]? = some q → ι'[i]? = some q := by
    obtain ⟨l, rfl⟩ := e.pre
    intro i q hq
    rw [List.getElem?_append_left (List.getElem?_eq_some_iff.1 hq).1]; exact hq
  have lastp : (ι ++ [p])[ι.length]? = some p := by simp
  have lastb : (H ++ [some b])[ι.length]? = some (some b) := by rw [hl]; simp
  -- the last block's real block is nobody's
  have hno : ∀ rb, p.blk = some rb → ¬ Own ι H w rb := by
    rintro rb hp (⟨i, q, c, hq, hc, ho, hrb⟩ | ⟨i, r, j, xs, v, hc, hi⟩)
    rotate_left
    · exact h.hid.s2 _ _ _ _ _ _ hc.up hi ι.length p b lastp lastb hp
    have hi : i < ι.length := (List.getElem?_eq_some_iff.1 hq).1
    exact h.sep i ι.length q p c b rb (snoc_up hq) (snoc_up hc) ho lastp lastb (by omega) hrb hp
  have hlt : ∀ rb, p.blk = some rb → rb < w.heap.size := fun rb hp => h.lt ι.length p b rb lastp lastb hp
  have hno' : ∀ rb, p.blk = some rb → ¬ Own ι' H' w' rb := by
    intro rb hp ho
    rcases e.fresh rb ho with h' | h'
    · exact hno rb hp h'
    · have := hlt rb hp; omega
  have hblk : BlkOk (ι' ++ [p]) w' p b := by
    have h0 := h.blk ι.length p b lastp lastb
    have hsame : ∀ rb, p.blk = some rb → w'.heap[rb]? = w.heap[rb]? := fun rb hp => e.fr.block rb (hlt rb hp) (hno rb hp)
    refine ⟨h0.sz, h0.len, fun r j hr hj => ?_, fun ho rb hp => ?_, fun r k hk => by rw [vias_plain (flatC_plain hf)] at hk; cases hk⟩
    · obtain ⟨rb, cs, e1, f, v, u, h1, h2, h3, h4, h5, h6⟩ := h0.cells r j hr hj
      exact ⟨rb, cs, e1, f, v, u, h1, by rw [hsame rb h1]; exact h2, h3, h4, flat1_vr (flatC_row hf h4) h5, h6⟩
    · have := h0.own ho rb hp
      rw [hsame rb hp]; exact this
  have hpl := flatC_plain hf
  have dn : ∀ {i r j own xs v}, HidCell (ι' ++ [p]) (H' ++ [some b]) w' i r j own xs v → HidCell ι' H' w' i r j own xs v := fun hc => hc.down hl' hpl
  -- a hidden slice does not lie in the last block
  have hlast : ∀ rb, p.blk = some rb → ∀ i r j own xs v, HidCell ι' H' w' i r j own xs v → ¬ Inner v rb := by
    intro rb hp i r j own xs v hc hi
    cases own with
    | true => exact hno' rb hp (.inr ⟨_, _, _, _, _, hc, hi⟩)
    | false =>
      obtain ⟨q, c, n, sz, g, o, rb0, cs, e1, f, z1, z2, z3, z4, z5, z6, z7, z8, z9⟩ := hc
      rcases hro i c z2 with ho | ⟨_, ho | ho⟩
      · rw [z3] at ho; cases ho
      · rw [z4] at ho; cases ho
      · have hi3 : i < ι.length := by rw [hl]; exact (List.getElem?_eq_some_iff.1 ho).1
        obtain ⟨r0, hr0⟩ : ∃ r0, ι[i]? = some r0 := ⟨_, List.getElem?_eq_getElem hi3⟩
        have := hpre i r0 hr0
        rw [z1] at this; cases this
        have hlt0 := h.lt i q c rb0 (snoc_up hr0) (snoc_up ho) z7
        have hn0 : ¬ Own ι H w rb0 := by
          rintro (⟨i2, q2, c2, y1, y2, y3, y4⟩ | ⟨i2, r2, j2, xs2, v2, y1, y2⟩)
          · have hne : i2 ≠ i := fun e => by subst e; rw [ho] at y2; cases y2; rw [z3] at y3; cases y3
            exact h.sep i2 i q2 q c2 c rb0 (snoc_up y1) (snoc_up y2) y3 (snoc_up hr0) (snoc_up ho) hne y4 z7
          · exact h.hid.s2 _ _ _ _ _ _ y1.up y2 i q c (snoc_up hr0) (snoc_up ho) z7
        rw [e.fr.block rb0 hlt0 hn0] at z8
        exact h.hid.s1 ι.length p b rb lastp lastb hb hp _ _ _ _ _ _ (HidCell.up ⟨q, c, n, sz, g, o, rb0, cs, e1, f, hr0, ho, z3, z4, z5, z6, z7, z8, z9⟩) hi
  have hhid : HidOk (ι' ++ [p]) (H' ++ [some b]) w' := by
    refine ⟨fun i r j own xs v hc => e.rh.hid.ok _ _ _ _ _ _ (dn hc), fun i r j own xs v rb hc hi => e.rh.hid.lt _ _ _ _ _ _ _ (dn hc) hi, ?_, ?_, fun i r j xs v rb hc hi i' r' j' own xs' v' hc' hi' => e.rh.hid.s3 _ _ _ _ _ _ (dn hc) hi _ _ _ _ _ _ (dn hc') hi'⟩
    · intro i q c rb hq hc ho hrb i' r j own xs v hcc hi
      rcases snoc_get hq with ⟨hi1, hq1⟩ | ⟨hi1, rfl⟩
      · rcases snoc_get hc with ⟨_, hc1⟩ | ⟨hi2, _⟩
        · exact e.rh.hid.s1 i q c rb hq1 hc1 ho hrb _ _ _ _ _ _ (dn hcc) hi
        · omega
      · exact hlast rb hrb _ _ _ _ _ _ (dn hcc) hi
    · intro i r j xs v rb hcc hi i' q c hq hc hrb
      rcases snoc_get hq with ⟨hi1, hq1⟩ | ⟨hi1, rfl⟩
      · rcases snoc_get hc with ⟨_, hc1⟩ | ⟨hi2, _⟩
        · exact e.rh.hid.s2 _ _ _ _ _ _ (dn hcc) hi i' q c hq1 hc1 hrb
        · omega
      · exact hlast rb hrb _ _ _ _ _ _ (dn hcc) hi
  refine ⟨by simp [hl'], fun i q c hq hc => ?_, fun i j q r c d rb hq hc ho hr hd hij hqb hrb => ?_, fun i q c rb hq hc hp => ?_, hhid⟩
  · rcases snoc_get hq with ⟨hi, hq⟩ | ⟨hi, rfl⟩
    · rcases snoc_get hc with ⟨_, hc⟩ | ⟨hi2, _⟩
      · exact (e.rh.blk i q c hq hc).of_heap (fun k x hx => snoc_up hx) (fun _ _ _ => rfl)
      · omega
    · rcases snoc_get hc with ⟨hi2, _⟩ | ⟨_, hc⟩
      · omega
      · simp only [Option.some.injEq] at hc; subst hc; exact hblk
  · rcases snoc_get hq with ⟨hi, hq1⟩ | ⟨hi, eq1⟩
    · rcases snoc_get hc with ⟨_, hc1⟩ | ⟨hi2, _⟩
      · rcases snoc_get hr with ⟨hj, hr1⟩ | ⟨hj, er⟩
        · rcases snoc_get hd with ⟨_, hd1⟩ | ⟨hj2, _⟩
          · exact e.rh.sep i j q r c d rb hq1 hc1 ho hr1 hd1 hij hqb hrb
          · omega
        · rw [er] at hrb
          exact hno' rb hrb (.inl ⟨i, q, c, hq1, hc1, ho, hqb⟩)
      · omega
    · rw [eq1] at hqb
      rcases snoc_get hr with ⟨hj, hr1⟩ | ⟨hj, _⟩
      · rcases snoc_get hd with ⟨_, hd1⟩ | ⟨hj2, _⟩
        · rcases hro _ _ hd1 with ho' | ⟨⟨c0, hc0⟩, _⟩
          · exact hno' rb hqb (.inl ⟨j, r, d, hr1, hd1, ho', hrb⟩)
          · have hj3 : j < ι.length := by rw [hl]; exact (List.getElem?_eq_some_iff.1 hc0).1
            obtain ⟨r0, hr0⟩ : ∃ r0, ι[j]? = some r0 := ⟨_, List.getElem?_eq_getElem hj3⟩
            have := hpre j r0 hr0
            rw [hr1] at this; cases this
            exact h.sep ι.length j p r b c0 rb lastp lastb hb (snoc_up hr0) (snoc_up hc0) (by omega) hqb hrb
        · omega
      · omega
  · rcases snoc_get hq with ⟨hi, hq⟩ | ⟨hi, rfl⟩
    · rcases snoc_get hc with ⟨_, hc⟩ | ⟨hi2, _⟩
      · exact e.rh.lt i q c rb hq hc hp
      · omega
    · exact Nat.lt_of_lt_of_le (hlt rb hp) e.fr.size

theorem mv_vr {ι1 ι2 : List Place} {p : Place} {u v : Value} (hu : isNew u = true) (h : VR (ι1 ++ [p]) (mv ι1.length u) v) : VR (ι2 ++ [p]) (mv ι2.length u) v := by
  unfold isNew at hu
  split at hu
  · simp only [mv] at h ⊢
    cases h with
    | slice h1 h2 h3 h4 h5 =>
      simp at h1; subst h1
      exact .slice (by simp) h2 h3 h4 h5
    | slice0 hx => exact .slice0 hx
  · simp only [mv] at h ⊢
    cases h with
    | ptr h1 h2 =>
      simp at h1; subst h1
      exact .ptr (by simp) h2
  · cases hu

theorem own_up {ι : List Place} {H : Heap} {p : Place} {b : Option Blk} {w : World} {rb : Nat} (h : Own ι H w rb) : Own (ι ++ [p]) (H ++ [b]) w rb := by
  rcases h with ⟨i, q, c, hq, hc, ho, hr⟩ | ⟨i, r, j, xs, v, hc, hi⟩
  · exact .inl ⟨i, q, c, snoc_up hq, snoc_up hc, ho, hr⟩
  · exact .inr ⟨i, r, j, xs, v, hc.up, hi⟩

theorem Ext.behind {ι0 ι ι' : List Place} {H0 H H' : Heap} {w0 w w' : World} {p : Place} {b : Blk} (hpre : ∃ l, ι = ι0 ++ l) (hl0 : ι.length = H.length) (hx : Ext ι0 H0 w0 (ι ++ [p]) (H ++ [some b]) w) (hb : b.own = true) (hf : flatC b.c = true) (hro : KeepsH H H')
    (e : Ext ι H w ι' H' w') : Ext ι0 H0 w0 (ι' ++ [p]) (H' ++ [some b]) w' := by
  have hrh := hx.rh.behind hb hf hro e
  have hup : ∀ rb, Own ι H w rb → Own ι0 H0 w0 rb ∨ w0.heap.size ≤ rb := fun rb ho => hx.fresh rb (own_up ho)
  refine ⟨?_, hrh, hx.fr.trans e.fr hup, fun rb ho => ?_⟩
  · obtain ⟨l, rfl⟩ := hpre
    obtain ⟨m, rfl⟩ := e.pre
    exact ⟨l ++ m ++ [p], by simp⟩
  · have hl' : ι'.length = H'.length := e.rh.len
    rcases ho with ⟨i, q, c, hq, hc, ho, hr⟩ | ⟨i, r, j, xs, v, hc, hi⟩
    rotate_left
    · rcases e.fresh rb (.inr ⟨i, r, j, xs, v, hc.down hl' (flatC_plain hf), hi⟩) with h' | h'
      · exact hup rb h'
      · exact .inr (Nat.le_trans hx.fr.size h')
    rcases snoc_get hq with ⟨hi, hq1⟩ | ⟨hi, eq1⟩
    · rcases snoc_get hc with ⟨_, hc1⟩ | ⟨hi2, _⟩
      · rcases e.fresh rb (.inl ⟨i, q, c, hq1, hc1, ho, hr⟩) with h' | h'
        · exact hup rb h'
        · exact .inr (Nat.le_trans hx.fr.size h')
      · omega
    · subst eq1
      exact hx.fresh rb (.inl ⟨ι.length, q, b, by simp, by rw [hl0]; simp, hb, hr⟩)

theorem cnt_lt {p q : Nat → Bool} : ∀ {E : List Nat}, (∀ e ∈ E, p e = true → q e = true) → (∃ e ∈ E, q e = true ∧ p e = false) → cnt p E < cnt q E
  | [], _, h => by obtain ⟨e, he, _⟩ := h; cases he
  | x :: E, h, h2 => by
    have hle := cnt_le (p := p) (q := q) (E := E) fun e he => h e (List.mem_cons_of_mem _ he)
    obtain ⟨e, he, h3, h4⟩ := h2
    simp only [cnt]
    rcases List.mem_cons.1 he with rfl | he
    · rw [h3, h4]; simp; omega
    · have ih := cnt_lt (p := p) (q := q) (E := E) (fun e he => h e (List.mem_cons_of_mem _ he)) ⟨e, he, h3, h4⟩
      cases hp : p x with
      | true => rw [h x (List.mem_cons_self ..) hp]; simpa using ih
      | false => cases hq : q x <;> simp <;> omega

end Go.Sim
