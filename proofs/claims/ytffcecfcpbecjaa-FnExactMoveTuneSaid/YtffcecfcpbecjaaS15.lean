/- A pure account of the values, floats and memory of a run, and how it stands to the model's (part 15: one run in the order of the text serves every order). Conditions: none. -/
import Derived.Test.YtffcecfcpbecjaaS14
namespace Go.Sim
open Go

/-! ### An operation depends on what it looks at -/

def opTmps (o : Op) : List Nat := o.operands.toList.filterMap fun | .tmp t => some t | _ => none

/-- The values of some temporaries. -/
def onlyE (ts : List Nat) : Env → Env
  | [] => []
  | (t, v) :: e => bif ts.contains t then (t, v) :: onlyE ts e else onlyE ts e

theorem look_onlyE (ts : List Nat) (t : Nat) : ∀ e : Env, look t (onlyE ts e) = if t ∈ ts then look t e else none
  | [] => by simp [onlyE, look]
  | (u, v) :: e => by
    have ih := look_onlyE ts t e
    simp only [onlyE]
    cases hc : ts.contains u with
    | true =>
      have hu : u ∈ ts := by simpa using hc
      simp only [cond_true, look]
      cases hb : Nat.beq t u with
      | true => have := Nat.eq_of_beq_eq_true hb; subst this; simp [hu]
      | false => simpa using ih
    | false =>
      have hu : u ∉ ts := by simpa using hc
      simp only [cond_false, look]
      cases hb : Nat.beq t u with
      | true => have := Nat.eq_of_beq_eq_true hb; subst this; rw [ih]; simp [hu]
      | false => simpa using ih

theorem evx_onlyE {ts : List Nat} {e : Env} {x : Operand} (h : ∀ t, x = .tmp t → t ∈ ts) : evx (onlyE ts e) x = evx e x := by
  cases x with
  | tmp t => simp only [evx]; rw [look_onlyE, if_pos (h t rfl)]
  | _ => rfl

theorem evxs_onlyE {ts : List Nat} {e : Env} : ∀ {l : List Operand}, (∀ t, Operand.tmp t ∈ l → t ∈ ts) → evxs (onlyE ts e) l = evxs e l
  | [], _ => rfl
  | x :: l, h => by
    simp only [evxs]
    rw [evx_onlyE (fun t ht => h t (by rw [ht]; exact List.mem_cons_self ..)), evxs_onlyE fun t ht => h t (List.mem_cons_of_mem _ ht)]

theorem evParts_onlyE {ts : List Nat} {e : Env} : ∀ {l : List (Nat × Operand)}, (∀ t, Operand.tmp t ∈ l.map (·.2) → t ∈ ts) → evParts (onlyE ts e) l = evParts e l
  | [], _ => rfl
  | (i, x) :: l, h => by
    simp only [evParts]
    rw [evx_onlyE (fun t ht => h t (by simp [ht])), evParts_onlyE fun t ht => h t (by simp only [List.map_cons, List.mem_cons]; exact .inr ht)]

theorem mem_opTmps {o : Op} {t : Nat} (h : Operand.tmp t ∈ o.operands.toList) : t ∈ opTmps o := List.mem_filterMap.2 ⟨_, h, rfl⟩

theorem evOpt_onlyE {ts : List Nat} {e : Env} {x : Option Operand} (h : ∀ t, x = some (.tmp t) → t ∈ ts) : evOpt (onlyE ts e) x = evOpt e x := by
  cases x with
  | none => rfl
  | some x => simp only [evOpt]; rw [evx_onlyE fun t ht => h t (by rw [ht])]

theorem evOp_onlyE (P : Program) (o : Op) (ts : List Nat) (hts : ∀ t ∈ opTmps o, t ∈ ts) (e : Env) (H : Heap) (os : List Orc) : evOp P o (onlyE ts e) H os = evOp P o e H os := by
  have hx : ∀ x, x ∈ o.operands.toList → evx (onlyE ts e) x = evx e x := fun x hx => evx_onlyE fun t ht => hts t (mem_opTmps (by rw [← ht]; exact hx))
  cases o <;> simp only [evOp, Op.operands] at hx ⊢
  case move x => rw [hx x (by simp)]
  case assign x => rw [hx x (by simp)]
  case pick c a b =>
    rw [hx c (by simp)]
    split
    · rename_i t t' r _ _
      congr 2
      cases t'
      · exact hx b (by simp)
      · exact hx a (by simp)
    · rfl
  case box t x => rw [hx x (by simp)]
  case build t ps => rw [evParts_onlyE fun t ht => hts t (mem_opTmps (by simpa [Op.operands] using ht))]
  case buildSlice t n ps => rw [evParts_onlyE fun t ht => hts t (mem_opTmps (by simpa [Op.operands] using ht))]
  case load t a => rw [hx a (by simp)]
  case store t a x => rw [hx a (by simp), hx x (by simp)]
  case nilCheck x => rw [hx x (by simp)]
  case binOp op t x y yt => rw [hx x (by simp), hx y (by simp)]
  case unOp op t x => rw [hx x (by simp)]
  case convert s d x => rw [hx x (by simp)]
  case makeFunc fn fs cs =>
    rw [evxs_onlyE fun t ht => hts t (mem_opTmps (by simp only [Op.operands, Array.toList_append, List.mem_append]; exact .inl ht)),
      evxs_onlyE fun t ht => hts t (mem_opTmps (by simp only [Op.operands, Array.toList_append, List.mem_append]; exact .inr ht))]
  case makeSlice t l c => rw [hx l (by simp), hx c (by simp)]
  case slice t x lo hi mx =>
    rw [hx x (by simp), evOpt_onlyE fun t ht => hts t (mem_opTmps (by simp [Op.operands, ht])), evOpt_onlyE fun t ht => hts t (mem_opTmps (by simp [Op.operands, ht])), evOpt_onlyE fun t ht => hts t (mem_opTmps (by simp [Op.operands, ht]))]
  case fieldAddr t x f => rw [hx x (by simp)]
  case field t x f => rw [hx x (by simp)]
  case indexAddr t x i => rw [hx x (by simp), hx i (by simp)]
  case index t x i => rw [hx x (by simp), hx i (by simp)]
  case extract x i => rw [hx x (by simp)]
  case call c =>
    obtain ⟨callee, args, ts'⟩ := c
    cases callee with
    | builtin b => simp only; rw [evxs_onlyE fun t ht => hts t (mem_opTmps (by simpa [Op.operands, Call.operands] using ht))]
    | value f =>
      simp only
      rw [hx f (by simp [Call.operands]), evxs_onlyE fun t ht => hts t (mem_opTmps (by simp only [Op.operands, Call.operands, Array.toList_append, List.mem_append]; exact .inr ht))]
    | invoke r m => rfl

theorem rv_hp {v : Value} {H : Heap} {os : List Orc} {vc : List Prop} {r : Res} (h : rv v H os vc = some r) : r.hp = H := (rv_some h).2.1

/-- What does not turn memory. -/
theorem evOp_quiet {P : Program} {o : Op} {e : Env} {H : Heap} {os : List Orc} {r : Res} (he : isEff o = false) (h : evOp P o e H os = some r) : r.hp = H := by
  cases o <;> simp only [evOp] at h <;> simp only [isEff] at he <;> try (cases h; done)
  all_goals try (cases he; done)
  case move x => exact (vo_some h).2
  case assign x => exact (vo_some h).2
  case pick c a b =>
    split at h
    · exact (vp_some h).2
    · cases h
  case build t ps =>
    split at h
    · exact (vo_some h).2
    · cases h
  case load t x =>
    split at h
    · exact (vp_some h).2
    · cases h
  case nilCheck x =>
    split at h
    · exact rv_hp h
    · exact rv_hp h
    · cases h
  case binOp =>
    split at h
    · exact (vp_some h).2
    · cases h
  case unOp =>
    split at h
    · exact (vp_some h).2
    · cases h
  case convert =>
    split at h
    · exact (vp_some h).2
    · cases h
  case makeFunc =>
    split at h
    · exact rv_hp h
    · cases h
  case slice =>
    split at h
    · exact (vp_some h).2
    · cases h
  case fieldAddr =>
    split at h
    · exact (vo_some h).2
    · cases h
  case field =>
    split at h
    · exact (vo_some h).2
    · cases h
  case indexAddr =>
    split at h
    · exact (vp_some h).2
    · cases h
  case index t x i =>
    split at h
    · cases hs : isStrT P t with
      | false => simp [hs] at h
      | true => simp only [hs, cond_true] at h; exact rv_hp h
    · cases h
  case extract =>
    split at h
    · exact (vo_some h).2
    · cases h
  case call c =>
    obtain ⟨callee, args, ts⟩ := c
    cases callee with
    | builtin b =>
      simp only at h
      split at h
      · unfold evBuiltin at h
        split at h
        · exact (vo_some h).2
        · simp at he
        · exact (vo_some h).2
        · exact (vo_some h).2
        · exact rv_hp h
        · exact rv_hp h
        · generalize sameF _ _ = q at h
          cases q with
          | false => cases h
          | true => exact rv_hp h
        · cases h
      · cases h
    | value f => simp at he
    | invoke r m => simp only at h; cases h

/-- What neither turns nor looks at memory gives the same at another one. -/
theorem evOp_pure {P : Program} {o : Op} {e : Env} {H : Heap} {os : List Orc} {r : Res} (he : isEff o = false) (hr : isRead o = false) (h : evOp P o e H os = some r) (H2 : Heap) : evOp P o e H2 os = some { r with hp := H2 } := by
  have hvo : ∀ {x : Option Value} {os : List Orc}, vo x H os = some r → vo x H2 os = some { r with hp := H2 } := by
    intro x os h
    cases x with
    | none => cases h
    | some v => simp [vo] at h; subst h; rfl
  have hvp : ∀ {x : Option (Value × List Prop)} {os : List Orc}, vp x H os = some r → vp x H2 os = some { r with hp := H2 } := by
    intro x os h
    cases x with
    | none => cases h
    | some v => obtain ⟨v, vc⟩ := v; simp [vp] at h; subst h; rfl
  have hrv : ∀ {v : Value} {os : List Orc} {vc : List Prop}, rv v H os vc = some r → rv v H2 os vc = some { r with hp := H2 } := by
    intro v os vc h
    simp [rv] at h; subst h; rfl
  cases o <;> simp only [evOp] at h ⊢ <;> simp only [isEff, isRead] at he hr <;> try (cases h; done)
  all_goals try (cases he; done)
  all_goals try (cases hr; done)
  case move x => exact hvo h
  case assign x => exact hvo h
  case pick c a b =>
    split at h
    · exact hvp h
    · cases h
  case build t ps =>
    split at h
    · exact hvo h
    · cases h
  case nilCheck x =>
    split at h
    · exact hrv h
    · exact hrv h
    · cases h
  case binOp =>
    split at h
    · exact hvp h
    · cases h
  case unOp =>
    split at h
    · exact hvp h
    · cases h
  case convert =>
    split at h
    · exact hvp h
    · cases h
  case makeFunc =>
    split at h
    · exact hrv h
    · cases h
  case fieldAddr =>
    split at h
    · exact hvo h
    · cases h
  case field =>
    split at h
    · exact hvo h
    · cases h
  case index t x i =>
    split at h
    · cases hs : isStrT P t with
      | false => simp [hs] at h
      | true => simp only [hs, cond_true] at h ⊢; exact hrv h
    · cases h
  case extract =>
    split at h
    · exact hvo h
    · cases h
  case call c =>
    obtain ⟨callee, args, ts⟩ := c
    cases callee with
    | builtin b =>
      simp only at h ⊢
      split at h
      · unfold evBuiltin at h ⊢
        split at h
        · exact hvo h
        · simp at he
        · exact hvo h
        · exact hvo h
        · exact hrv h
        · exact hrv h
        · generalize sameF _ _ = q at h ⊢
          cases q with
          | false => cases h
          | true => exact hrv h
        · cases h
      · cases h
    | value f => simp at he
    | invoke r m => simp only at h; cases h

/-! ### The lexical run -/

/-- What the lexical run tells of operation 'i'. -/
structure TrOk (P : Program) (all : List Oper) (o : Oper) (t : Tr) : Prop where
  guard : ∃ os0 vg, guardB all o (e := t.e) os0 = some (t.g, t.os, vg) ∧ AllP vg
  run : t.g = true → ∃ r, evOp P o.op t.e t.H t.os = some r ∧ r.v = t.v ∧ r.hp = t.H' ∧ AllP r.vc
  skip : t.g = false → t.v = undef ∧ t.H' = t.H

end Go.Sim
