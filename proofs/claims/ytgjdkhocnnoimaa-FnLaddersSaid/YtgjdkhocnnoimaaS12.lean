/- A pure account of the values, floats and memory of a run, and how it stands to the model's (part 12: the evaluator of operations is right). Conditions: none. -/
import Derived.Test.YtgjdkhocnnoimaaS11
namespace Go.Sim
open Go

/-- An operation gives the value, and turns memory as told. -/
def OpRuns (P : Program) (o : Oper) (ρ : Operand → Value) (ι : List Place) (H : Heap) (w : World) (v : Value) (H' : Heap) : Prop :=
  (∃ ι' v' w', ((execOp ρ o).run P w = .ok (.value v') w' ∨ ((execOp ρ o).run P w = .ok .skip w' ∧ v' = undef)) ∧ VR ι' v v' ∧ Ext ι H w ι' H' w') ∨
  (∃ f args, (execOp ρ o).run P w = .ok (.enter f args) w ∧ Calls P f args w fun e w' => ∃ ι' v', e = .returned v' ∧ VR ι' v v' ∧ Ext ι H w ι' H' w')

section
variable {P : Program} {ι : List Place} {w : World}

theorem OpRuns.wp {o : Oper} {a : Act} {H H' : Heap} {v : Value} {next : Act → World → Prop} {Q : Exit → Act → World → Prop} (h : OpRuns P o a.eval ι H w v H')
    (hn : ∀ ι' v' w', VR ι' v v' → Ext ι H w ι' H' w' → next (a.put o.dst v') w') : o.wp P a w next Q := by
  unfold Oper.wp
  rcases h with ⟨ι', v', w', h1, h2, h3⟩ | ⟨f, args, h1, h2⟩
  · rcases h1 with h1 | ⟨h1, rfl⟩
    · rw [h1]; exact hn ι' v' w' h2 h3
    · rw [h1]; exact hn ι' _ w' h2 h3
  · rw [h1]
    refine h2.mono fun e w' he => ?_
    obtain ⟨ι', v', rfl, h3, h4⟩ := he
    exact hn ι' v' w' h3 h4

theorem runs_of_quiet {m : Sem Value} {H : Heap} {v : Value} (hrh : RH ι H w) (h : Quiet P m ι w v) : Runs P m ι H w v H := by
  obtain ⟨v', w', h1, h2, h3⟩ := h
  exact ⟨ι, v', w', h1, h3, Ext.drawn hrh h2⟩

/-- An operation that is one computation of a value. -/
theorem op_of_runs {o : Oper} {ρ : Operand → Value} {m : Sem Value} {H H' : Heap} {v : Value} (he : execOp ρ o = (do pure (.value (← m)))) (h : Runs P m ι H w v H') : OpRuns P o ρ ι H w v H' := by
  obtain ⟨ι', v', w', h1, h2, h3⟩ := h
  exact .inl ⟨ι', v', w', .inl (by rw [he]; simp [h1]), h2, h3⟩

theorem vp_some {r : Option (Value × List Prop)} {H : Heap} {os : List Orc} {x : Res} (h : vp r H os = some x) : r = some (x.v, x.vc) ∧ x.hp = H := by
  cases r with
  | none => cases h
  | some p => obtain ⟨v, vc⟩ := p; simp [vp] at h; subst h; exact ⟨rfl, rfl⟩

theorem vo_some {r : Option Value} {H : Heap} {os : List Orc} {x : Res} (h : vo r H os = some x) : r = some x.v ∧ x.hp = H := by
  cases r with
  | none => cases h
  | some p => simp [vo] at h; subst h; exact ⟨rfl, rfl⟩

theorem vh_some {r : Option (Value × Heap × List Prop)} {os : List Orc} {x : Res} (h : vh r os = some x) : r = some (x.v, x.hp, x.vc) := by
  cases r with
  | none => cases h
  | some p => obtain ⟨v, H, vc⟩ := p; simp [vh] at h; subst h; rfl

theorem rv_some {v : Value} {H : Heap} {os : List Orc} {vc : List Prop} {x : Res} (h : rv v H os vc = some x) : x.v = v ∧ x.hp = H ∧ x.vc = vc := by
  simp [rv] at h; subst h; exact ⟨rfl, rfl, rfl⟩

theorem map_toArray (ρ : Operand → Value) (xs : Array Operand) : xs.map ρ = ⟨xs.toList.map ρ⟩ := by
  apply Array.ext'; simp

theorem evOpt_sound {e : Env} {ρ : Operand → Value} (henv : EnvOk ι e ρ) {x : Option Operand} {v : Option Value} (h : evOpt e x = some v) :
    (∀ u, v = some u → ∃ u', x.map ρ = some u' ∧ VR ι u u') ∧ (v = none → x.map ρ = none) := by
  cases x with
  | none => simp [evOpt] at h; subst h; exact ⟨fun u hu => (by cases hu), fun _ => rfl⟩
  | some x =>
    simp only [evOpt, Option.map_eq_some_iff] at h
    obtain ⟨u, hu, rfl⟩ := h
    exact ⟨fun u' hu' => (by cases hu'; exact ⟨_, rfl, henv x _ hu⟩), fun hn => (by cases hn)⟩

theorem evCall_sound {fv fv' : Value} {args : List Value} {args' : Array Value} {H : Heap} {os : List Orc} {r : Res} (hrh : RH ι H w) (h : evCall P fv args H os = some r) (hv : AllP r.vc) (hf : VR ι fv fv') (ha : VRs ι args args'.toList)
    (o : Oper) (ρ : Operand → Value) (he : execOp ρ o = (do let d ← Deferred.ofValue fv' args'; invoke d.target d.args)) : OpRuns P o ρ ι H w r.v r.hp := by
  unfold evCall at h
  split at h
  · rename_i f first capt m v hl rest
    cases hf with | func _ hfi hca =>
    rename_i first' capt'
    have hexec : execOp ρ o = callFunc f ⟨first' ++ args'.toList ++ capt'⟩ := by
      rw [he]
      simp [Deferred.ofValue, invoke]
      congr 1
      apply Array.ext'
      simp
    split at h
    · rename_i cargs ch hargs hch honce
      split at h
      · rename_i v' H' hvv hmg
        simp only [Option.some.injEq] at h
        subst h
        have hev := hv.1
        obtain ⟨hrc, _⟩ := hrh.hand hch honce
        have hall := (hfi.append ha).append hca
        have hcargs := (renV_rvI (m.map (·.1))).list (ren_places ι _) hargs hall
        obtain ⟨h1, h2⟩ := hev _ w _ hrc hcargs
        refine .inr ⟨f, _, by rw [hexec]; exact h1, h2.mono fun e w' he' => ?_⟩
        obtain ⟨ι', v3, rfl, h3, h4⟩ := he'
        obtain ⟨l, rfl⟩ := h4.pre
        obtain ⟨h5, h6⟩ := Ext.back hrh hch honce h4 hmg
        exact ⟨_, v3, rfl, renV_rvF _ _ _ _ _ _ h6 hvv h3, h5⟩
      · cases h
    · cases h
  · rename_i f first capt v rest
    cases hf with | func _ hfi hca =>
    rename_i first' capt'
    have hexec : execOp ρ o = callFunc f ⟨first' ++ args'.toList ++ capt'⟩ := by
      rw [he]
      simp [Deferred.ofValue, invoke]
      congr 1
      apply Array.ext'
      simp
    simp only [Option.some.injEq] at h
    subst h
    obtain ⟨v', w', h1, h2, h3⟩ := hv.1 ι w _ ((hfi.append ha).append hca)
    exact .inl ⟨ι, v', w', .inl (by rw [hexec]; exact h1), h3.mono (fun b p hb => by simp at hb), Ext.drawn hrh h2⟩
  · cases h

theorem evBuiltin_sound {b : Builtin} {ts : List TypeId} {ats : Array TypeId} {args : List Value} {args' : Array Value} {H : Heap} {os : List Orc} {r : Res} (hrh : RH ι H w) (h : evBuiltin P b ts args H os = some r) (hv : AllP r.vc)
    (ha : VRs ι args args'.toList) (hts : ats.toList = ts) (o : Oper) (ρ : Operand → Value) (cs : Array Bool) (he : execOp ρ o = builtin b ats o.type cs args') : OpRuns P o ρ ι H w r.v r.hp := by
  obtain ⟨ats⟩ := ats
  obtain ⟨args'⟩ := args'
  simp only at hts; subst hts
  simp only at ha
  unfold evBuiltin at h
  split at h
  · rename_i t ts x xs
    obtain ⟨h1, h2⟩ := vo_some h
    rw [h2]
    cases ha with | cons hx hxs =>
    rename_i x' xs'
    have hq := evLen_sound (P := P) (ι := ι) (w := w) (ts := ⟨t :: ts⟩) (ty := o.type) h1 hx rfl
    have e : (Builtin.len_ ⟨t :: ts⟩ o.type ⟨x' :: xs'⟩) = Builtin.len_ ⟨t :: ts⟩ o.type #[x'] := by simp [Builtin.len_]
    exact op_of_runs (m := Builtin.len_ ⟨t :: ts⟩ o.type ⟨x' :: xs'⟩) (by rw [he]; rfl) (by rw [e]; exact runs_of_quiet hrh hq)
  · rename_i t t' s x
    split at h
    · rename_i whole rest _
      cases hb : Nat.beq t t' with
      | false => simp [hb] at h
      | true =>
        have := Nat.eq_of_beq_eq_true hb; subst this
        simp only [hb, cond_true] at h
        have h1 := vh_some h
        cases ha with | cons hs hxs =>
        cases hxs with | cons hx hxs =>
        cases hxs
        exact op_of_runs (m := Builtin.append_ #[t, t] o.type #[_, _]) (by rw [he]; rfl) (evAppend_sound hrh h1 hv hs hx)
    · cases h
  · rename_i t ts d x
    have h1 := vh_some h
    cases ha with | cons hd hxs =>
    cases hxs with | cons hx hxs =>
    cases hxs
    exact op_of_runs (m := Builtin.copy_ ⟨t :: ts⟩ o.type ⟨[_, _]⟩) (by rw [he]; rfl) (evCopy_sound hrh h1 hv hd hx)
  · rename_i x y
    obtain ⟨h1, h2⟩ := vo_some h
    rw [h2]
    cases ha with | cons hx hxs =>
    cases hxs with | cons hy hxs =>
    cases hxs
    rename_i x' y'
    have hq := evMinMax_sound (P := P) (w := w) h1 hx hy
    simp only [if_true] at hq
    exact op_of_runs (m := Builtin.max_ ⟨ats⟩ o.type ⟨[x', y']⟩) (by rw [he]; rfl) (by
      have e : Builtin.max_ ⟨ats⟩ o.type ⟨[x', y']⟩ = Builtin.max2 x' y' := by simp [Builtin.max_]
      rw [e]; exact runs_of_quiet hrh hq)
  · rename_i x y
    obtain ⟨h1, h2⟩ := vo_some h
    rw [h2]
    cases ha with | cons hx hxs =>
    cases hxs with | cons hy hxs =>
    cases hxs
    rename_i x' y'
    have hq := evMinMax_sound (P := P) (w := w) h1 hx hy
    simp only [Bool.false_eq_true, if_false] at hq
    exact op_of_runs (m := Builtin.min_ ⟨ats⟩ o.type ⟨[x', y']⟩) (by rw [he]; rfl) (by
      have e : Builtin.min_ ⟨ats⟩ o.type ⟨[x', y']⟩ = Builtin.min2 x' y' := by simp [Builtin.min_]
      rw [e]; exact runs_of_quiet hrh hq)
  · rename_i k x y
    obtain ⟨h1, h2, _⟩ := rv_some h
    rw [h1, h2]
    cases ha with | cons hx hxs =>
    cases hxs
    cases hx with | complex g1 g2 g3 g4 =>
    exact op_of_runs (m := Builtin.real_ ⟨ats⟩ o.type ⟨[_]⟩) (by rw [he]; rfl) (runs_of_quiet hrh (Quiet.pure (.float g1 g2)))
  · rename_i k x y
    obtain ⟨h1, h2, _⟩ := rv_some h
    rw [h1, h2]
    cases ha with | cons hx hxs =>
    cases hxs
    cases hx with | complex g1 g2 g3 g4 =>
    exact op_of_runs (m := Builtin.imag_ ⟨ats⟩ o.type ⟨[_]⟩) (by rw [he]; rfl) (runs_of_quiet hrh (Quiet.pure (.float g3 g4)))
  · rename_i k x k' y
    cases hk : sameF k k' with
    | false => simp [hk] at h
    | true =>
      obtain rfl := sameF_eq hk
      simp only [hk, cond_true] at h
      obtain ⟨h1, h2, _⟩ := rv_some h
      rw [h1, h2]
      cases ha with | cons hx hxs =>
      cases hxs with | cons hy hxs =>
      cases hxs
      cases hx with | float g1 g2 =>
      cases hy with | float g3 g4 =>
      exact op_of_runs (m := Builtin.complex_ ⟨ats⟩ o.type ⟨[_, _]⟩) (by rw [he]; rfl) (runs_of_quiet hrh (by
        have e : ∀ a b, Builtin.complex_ ⟨ats⟩ o.type ⟨[.float k a, .float k b]⟩ = Pure.pure (.complex k a b) := by intro a b; cases k <;> rfl
        rw [e]; exact Quiet.pure (.complex g1 g2 g3 g4)))
  · cases h

set_option maxHeartbeats 4000000 in
theorem evOp_sound {o : Oper} {ρ : Operand → Value} {e : Env} {H : Heap} {os : List Orc} {r : Res} (h : evOp P o.op e H os = some r) (hv : AllP r.vc) (henv : EnvOk ι e ρ) (hrh : RH ι H w) : OpRuns P o ρ ι H w r.v r.hp := by
  obtain ⟨dst, op, ty, pos, after, guard⟩ := o
  simp only at h
  cases op <;> simp only [evOp] at h <;> try (cases h; done)
  case move x =>
    obtain ⟨h1, h2⟩ := vo_some h
    rw [h2]
    exact .inl ⟨ι, ρ x, w, .inl (by simp [execOp]), henv x _ h1, Ext.refl hrh⟩
  case assign x =>
    obtain ⟨h1, h2⟩ := vo_some h
    rw [h2]
    exact .inl ⟨ι, ρ x, w, .inl (by simp [execOp]), henv x _ h1, Ext.refl hrh⟩
  case pick c a b =>
    split at h
    · rename_i t t' rest hc hb
      obtain ⟨h1, h2⟩ := vp_some h
      rw [h2]
      simp only [Option.map_eq_some_iff, Prod.mk.injEq] at h1
      obtain ⟨v, h3, rfl, h4⟩ := h1
      rw [← h4] at hv
      have ht : t = t' := hv.1
      subst ht
      have hcr := henv c _ hc
      generalize hρ : ρ c = cv at hcr
      cases hcr
      refine .inl ⟨ι, ρ (bif t then a else b), w, .inl ?_, henv _ _ h3, Ext.refl hrh⟩
      cases t <;> simp [execOp, asBool, hρ]
    · cases h
  case alloc t =>
    split at h
    · rename_i i hi
      split at h
      · rename_i z hz
        cases hc : (plain z && allP one1 (cellsV z)) with
        | false => simp [hc] at h
        | true =>
          simp only [hc, cond_true, Option.some.injEq] at h
          subst h
          simp only [Bool.and_eq_true] at hc
          exact op_of_runs (m := Instr.alloc t true (.tuple #[])) rfl (alloc_sound hrh hi hz hc.1 hc.2)
      · cases h
    · cases h
  case box t x =>
    split at h
    · rename_i v hx
      cases hc : allP one1 (cellsV v) with
      | false => simp [hc] at h
      | true =>
        simp only [hc, cond_true, Option.some.injEq] at h
        subst h
        exact op_of_runs (m := Instr.box t (ρ x)) rfl (box_sound hrh (henv x _ hx) hc t)
    · cases h
  case build t ps =>
    split at h
    · rename_i l hl
      obtain ⟨h1, h2⟩ := vo_some h
      rw [h2]
      obtain ⟨l', e1, e2, e3⟩ := evParts_sound henv hl
      exact op_of_runs (m := Instr.build t (ps.map fun (i, x) => (i, ρ x))) rfl (runs_of_quiet hrh (by
        have : (ps.map fun (i, x) => (i, ρ x)) = l'.toArray := by apply Array.ext'; rw [← e1]; simp
        rw [this]; exact evBuild_sound h1 e2 e3))
    · cases h
  case buildSlice t n ps =>
    split at h
    · rename_i l hl
      split at h
      · rename_i v H' hb
        simp only [Option.some.injEq] at h; subst h
        obtain ⟨l', e1, e2, e3⟩ := evParts_sound henv hl
        exact op_of_runs (m := Instr.buildSlice t n (ps.map fun (i, x) => (i, ρ x))) rfl (by
          have : (ps.map fun (i, x) => (i, ρ x)) = l'.toArray := by apply Array.ext'; rw [← e1]; simp
          rw [this]; exact evBuildSlice_sound hrh hb e2 e3)
      · cases h
    · cases h
  case load t x =>
    split at h
    · rename_i v hx
      obtain ⟨h1, h2⟩ := vp_some h
      rw [h2]
      exact op_of_runs (m := Instr.loadAt t (ρ x)) rfl (runs_of_quiet hrh (evLoad_sound h1 hv (henv x _ hx) hrh))
    · cases h
  case store t x y =>
    split at h
    · rename_i av v hx hy
      split at h
      · rename_i H' vc hst
        simp only [Option.some.injEq] at h; subst h
        obtain ⟨w', g1, g2⟩ := evStore_sound hst hv (henv x _ hx) (henv y _ hy) hrh
        exact .inl ⟨ι, undef, w', .inr ⟨by simp [execOp, g1], rfl⟩, vr_undef, g2⟩
      · cases h
    · cases h
  case nilCheck x =>
    split at h
    · rename_i a hx
      obtain ⟨h1, h2, _⟩ := rv_some h
      rw [h1, h2]
      have hvr := henv x _ hx
      generalize hρ : ρ x = xv at hvr
      refine .inl ⟨ι, xv, w, .inl ?_, hvr, Ext.refl hrh⟩
      cases hvr
      simp [execOp, hρ]
    · rename_i f fs cs hx
      obtain ⟨h1, h2, _⟩ := rv_some h
      rw [h1, h2]
      have hvr := henv x _ hx
      generalize hρ : ρ x = xv at hvr
      refine .inl ⟨ι, xv, w, .inl ?_, hvr, Ext.refl hrh⟩
      cases hvr
      simp [execOp, hρ]
    · cases h
  case binOp op t x y yt =>
    split at h
    · rename_i a b hx hy
      obtain ⟨h1, h2⟩ := vp_some h
      rw [h2]
      exact op_of_runs (m := (do eqGuard op t x y (ρ x) (ρ y); binOp op t (ρ x) (ρ y))) rfl (runs_of_quiet hrh (evBin_sound h1 hv (henv x _ hx) (henv y _ hy) x y))
    · cases h
  case unOp op t x =>
    split at h
    · rename_i a hx
      obtain ⟨h1, h2⟩ := vp_some h
      rw [h2]
      exact op_of_runs (m := Op.unary op (ρ x)) rfl (runs_of_quiet hrh (evUn_sound h1 hv (henv x _ hx)))
    · cases h
  case convert s d x =>
    split at h
    · rename_i a hx
      obtain ⟨h1, h2⟩ := vp_some h
      rw [h2]
      exact op_of_runs (m := convert s d (ρ x)) rfl (runs_of_quiet hrh (evConv_sound h1 hv (henv x _ hx)))
    · cases h
  case makeFunc fn fs cs =>
    split at h
    · rename_i f c hf hc
      obtain ⟨h1, h2, _⟩ := rv_some h
      rw [h1, h2]
      refine .inl ⟨ι, .func fn ⟨fs.toList.map ρ⟩ ⟨cs.toList.map ρ⟩, w, .inl ?_, .func fn (henv.list hf) (henv.list hc), Ext.refl hrh⟩
      simp [execOp, Instr.makeFunc, map_toArray]
    · cases h
  case makeSlice t l c =>
    split at h
    · rename_i a b n rest hl hc hn
      have h1 := vh_some h
      exact op_of_runs (m := Instr.makeSlice t (ρ l) (ρ c)) rfl (evMake_sound hrh h1 hv (henv l _ hl) (henv c _ hc))
    · cases h
  case slice t x lo hi mx =>
    split at h
    · rename_i v l hh m nlo nhi rest hx hl hhi hm
      obtain ⟨h1, h2⟩ := vp_some h
      rw [h2]
      obtain ⟨l1, l2⟩ := evOpt_sound henv hl
      obtain ⟨i1, i2⟩ := evOpt_sound henv hhi
      obtain ⟨m1, m2⟩ := evOpt_sound henv hm
      exact op_of_runs (m := Instr.sliceAt t (ρ x) (lo.map ρ) (hi.map ρ) (mx.map ρ)) rfl (runs_of_quiet hrh (evSlice_sound h1 hv (henv x _ hx) l1 l2 i1 i2 m1 m2 hrh))
    · cases h
  case fieldAddr t x f =>
    split at h
    · rename_i a hx
      obtain ⟨h1, h2⟩ := vo_some h
      rw [h2]
      exact op_of_runs (m := Instr.fieldAt t (ρ x) f) rfl (runs_of_quiet hrh (evFieldAddr_sound h1 (henv x _ hx)))
    · cases h
  case field t x f =>
    split at h
    · rename_i a hx
      obtain ⟨h1, h2⟩ := vo_some h
      rw [h2]
      exact op_of_runs (m := Instr.field t (ρ x) f) rfl (runs_of_quiet hrh (evField_sound h1 (henv x _ hx)))
    · cases h
  case indexAddr t x i =>
    split at h
    · rename_i a b n rest hx hi hn
      obtain ⟨h1, h2⟩ := vp_some h
      rw [h2]
      exact op_of_runs (m := Instr.indexAt t (ρ x) (ρ i)) rfl (runs_of_quiet hrh (evIndexAddr_sound h1 hv (henv x _ hx) (henv i _ hi) hrh))
    · cases h
  case index t x i =>
    split at h
    · rename_i s k kk n rest hx hi hn
      cases hst : isStrT P t with
      | false => simp [hst] at h
      | true =>
        have hu : P.underlying t = some .string := by
          unfold isStrT at hst
          cases hu : P.underlying t with
          | none => simp [hu] at hst
          | some d => cases d <;> simp [hu] at hst; rfl
        simp only [hst, cond_true] at h
        obtain ⟨h1, h2, h3⟩ := rv_some h
        rw [h3] at hv
        obtain ⟨hk, hlt, _⟩ := hv
        rw [h1, h2]
        have hvx := henv x _ hx
        have hvi := henv i _ hi
        generalize hρx : ρ x = xv at hvx
        generalize hρi : ρ i = iv at hvi
        cases hvx; cases hvi
        refine op_of_runs (m := Instr.index t (ρ x) (ρ i)) rfl (runs_of_quiet hrh ⟨_, w, ?_, Drawn.refl w, .int _ _⟩)
        rw [hρx, hρi]
        have hs : s[n]? = some (s.data.toList.getD n 0) := by
          rw [getElem?_pos s n hlt]
          congr 1
          have hlt' : n < s.data.toList.length := by simpa using hlt
          rw [List.getD_eq_getElem?_getD, List.getElem?_eq_getElem hlt']
          simp
          rfl
        simp [Instr.index, asIntOf, run_underlying hu, hk, hs]
    · cases h
  case extract x i =>
    split at h
    · rename_i l hx
      obtain ⟨h1, h2⟩ := vo_some h
      rw [h2]
      rw [nth_eq] at h1
      have hvx := henv x _ hx
      generalize hρx : ρ x = xv at hvx
      cases hvx with | tuple hl =>
      obtain ⟨v', g1, g2⟩ := hl.get _ _ h1
      refine op_of_runs (m := Instr.extract (ρ x) i) rfl (runs_of_quiet hrh ⟨v', w, ?_, Drawn.refl w, g2⟩)
      rw [hρx]
      simp [Instr.extract, g1]
    · cases h
  case call c =>
    obtain ⟨callee, args, ts⟩ := c
    cases callee with
    | builtin b =>
      simp only at h
      split at h
      · rename_i vs hvs
        exact evBuiltin_sound (args' := args.map ρ) (ats := ts) hrh h hv (by rw [map_toArray]; exact henv.list hvs) rfl _ ρ (args.map fun | .const _ => true | _ => false) (by simp [execOp, resolve, invoke]; rfl)
      · cases h
    | value f =>
      simp only at h
      split at h
      · rename_i fv vs hf hvs
        exact evCall_sound (args' := args.map ρ) hrh h hv (henv f _ hf) (by rw [map_toArray]; exact henv.list hvs) _ ρ (by simp [execOp, resolve])
      · cases h
    | invoke r m => simp only at h; cases h

end
end Go.Sim
