/- A pure account of the values, floats and memory of a run, and how it stands to the model's (part 13: regions in the order of the text). Conditions: none. -/
import Derived.Test.YtgjdkhocnnoimaaS12
namespace Go.Sim
open Go

theorem look_ins (t u : Nat) (v : Value) : ∀ (e : Env), look t (ins u v e) = if t = u then some v else look t e
  | [] => by
    simp only [ins, look]
    cases h : Nat.beq t u with
    | true => have := Nat.eq_of_beq_eq_true h; simp [this]
    | false => have : t ≠ u := fun e => by subst e; simp at h
               simp [this]
  | (x, y) :: r => by
    simp only [ins]
    cases h : Nat.beq u x with
    | true =>
      have hu := Nat.eq_of_beq_eq_true h
      subst hu
      simp only [cond_true, look]
      cases h2 : Nat.beq t u with
      | true => have := Nat.eq_of_beq_eq_true h2; simp [this]
      | false => have : t ≠ u := fun e => by subst e; simp at h2
                 simp [this]
    | false =>
      have hux : u ≠ x := fun e => by subst e; simp at h
      simp only [cond_false]
      cases h3 : Nat.ble u x with
      | true =>
        simp only [cond_true, look]
        cases h2 : Nat.beq t u with
        | true => have := Nat.eq_of_beq_eq_true h2; simp [this]
        | false => have : t ≠ u := fun e => by subst e; simp at h2
                   simp [this]
      | false =>
        simp only [cond_false, look]
        cases h2 : Nat.beq t x with
        | true =>
          have := Nat.eq_of_beq_eq_true h2
          subst this
          have : t ≠ u := fun e => hux e.symm
          simp [this]
        | false => simp only [cond_false]; exact look_ins t u v r

theorem tmps_put {a : Act} {N : Nat} (hs : a.tmps.size = N) {d : Nat} (hd : d < N) (v : Value) (t : Nat) : (a.put (some d) v).tmps.getD t undef = if t = d then v else a.tmps.getD t undef := by
  simp only [Act.put]
  by_cases h : t = d
  · subst h
    rw [if_pos rfl]
    simp [hs, hd]
  · rw [if_neg h]
    simp only [Array.getD_eq_getD_getElem?]
    rw [Array.getElem?_setIfInBounds_ne (fun e => h e.symm)]

theorem size_put (a : Act) (d : Option Tmp) (v : Value) : (a.put d v).tmps.size = a.tmps.size := by
  cases d <;> simp [Act.put]

theorem defers_put (a : Act) (d : Option Tmp) (v : Value) : (a.put d v).defers = a.defers := by
  cases d <;> simp [Act.put]

section
variable {P : Program} {N : Nat} {ι : List Place} {w : World}

theorem Rel.put {s : St} {a : Act} (h : Rel N ι s a w) {d : Option Tmp} {v v' : Value} {e : Env} {ι' : List Place} {H' : Heap} {w' : World} (hp : putD N d v s.tm = some e) (hv : VR ι' v v') (hx : Ext ι s.hp w ι' H' w') :
    Rel N ι' ⟨e, H'⟩ (a.put d v') w' := by
  refine ⟨by rw [size_put]; exact h.size, by rw [defers_put]; exact h.defers, fun t u ht => ?_, hx.rh⟩
  cases d with
  | none =>
    simp only [putD, Option.some.injEq] at hp; subst hp
    obtain ⟨h1, h2⟩ := h.env t u ht
    exact ⟨h1, h2.mono hx.sub⟩
  | some d =>
    simp only [putD] at hp
    cases hb : Nat.blt d N with
    | false => simp [hb] at hp
    | true =>
      have hd : d < N := Nat.le_of_ble_eq_true hb
      simp only [hb, cond_true, Option.some.injEq] at hp; subst hp
      simp only [look_ins] at ht
      rw [tmps_put h.size hd]
      split at ht
      · rename_i e; subst e
        cases ht
        exact ⟨hd, by rw [if_pos rfl]; exact hv⟩
      · rename_i e
        obtain ⟨h1, h2⟩ := h.env t u ht
        exact ⟨h1, by rw [if_neg e]; exact h2.mono hx.sub⟩

theorem guardB_sound {ops : Array Oper} {o : Oper} {e : Env} {a : Act} {os os1 : List Orc} {b : Bool} {vg : List Prop} (h : guardB ops.toList e o os = some (b, os1, vg)) (hv : AllP vg)
    (hn : a.tmps.size = N) (henv : ∀ (j : Nat) (want : Bool) (oj : Oper) (d : Nat) (v : Value), o.guard = some (j, want) → ops[j]? = some oj → oj.dst = some d → look d e = some v → d < N ∧ VR ι v (a.tmps.getD d undef)) :
    Region.wanted o (yielded ops a.tmps) = b := by
  unfold guardB at h
  unfold Region.wanted
  cases hg : o.guard with
  | none => simp [hg] at h; simp [h.1]
  | some p =>
    obtain ⟨j, want⟩ := p
    simp only [hg] at h ⊢
    split at h
    · rename_i oj hoj
      rw [nth_eq] at hoj
      have hoj' : ops[j]? = some oj := by simpa using hoj
      split at h
      · rename_i d hd
        split at h
        · rename_i hl
          simp only [Option.some.injEq, Prod.mk.injEq] at h
          obtain ⟨rfl, rfl, rfl⟩ := h
          obtain ⟨h1, h2⟩ := henv j want oj d _ hg hoj' hd hl
          have hy : yielded ops a.tmps j = none := by
            unfold yielded
            have h3 : d < a.tmps.size := by rw [hn]; exact h1
            rw [Array.getD_eq_getD_getElem?, Array.getElem?_eq_getElem h3] at h2
            simp only [Option.getD_some] at h2
            generalize hx : a.tmps[d] = x at h2
            cases h2 with | tuple h2 =>
            cases h2
            have : a.tmps[d]? = some (.tuple ⟨[]⟩) := by rw [Array.getElem?_eq_getElem h3, hx]
            simp [hoj', hd, this]
          rw [hy]
          rfl
        · rename_i t t' rest hl
          simp only [Option.some.injEq, Prod.mk.injEq] at h
          obtain ⟨rfl, rfl, rfl⟩ := h
          obtain ⟨h1, h2⟩ := henv j want oj d _ hg hoj' hd hl
          have ht : t = t' := hv.1
          subst ht
          have hy : yielded ops a.tmps j = some t := by
            unfold yielded
            have : a.tmps[d]? = some (.bool t) := by
              have h3 : d < a.tmps.size := by rw [hn]; exact h1
              rw [Array.getD_eq_getD_getElem?, Array.getElem?_eq_getElem h3] at h2
              simp only [Option.getD_some] at h2
              generalize hx : a.tmps[d] = x at h2
              cases h2
              rw [Array.getElem?_eq_getElem h3, hx]
            simp [hoj', hd, this]
          rw [hy]
          cases t <;> cases want <;> rfl
        · cases h
      · cases h
    · cases h

theorem Rel.guard {s : St} {a : Act} (h : Rel N ι s a w) {ops : Array Oper} {o : Oper} {os os1 : List Orc} {b : Bool} {vg : List Prop} (hg : guardB ops.toList s.tm o os = some (b, os1, vg)) (hv : AllP vg) :
    Region.wanted o (yielded ops a.tmps) = b :=
  guardB_sound (N := N) (ι := ι) hg hv h.size fun _ _ _ d v _ _ _ hl => h.env d v hl

/-- Bytes, one behind the other. -/
theorem run_bytes (w : World) (f : Value → ByteArray → Sem (ForInStep ByteArray)) (hf : ∀ (n : Int) (s : ByteArray), (f (.int .u8 n) s).run P w = .ok (.yield (s.push (UInt8.ofNat n.toNat))) w) : ∀ (l : List Value) (xs : List Int) (s : ByteArray), l = xs.map (Value.int .u8) →
    (forIn l s f).run P w = .ok (⟨⟨s.data.toList ++ xs.map fun n => UInt8.ofNat n.toNat⟩⟩ : ByteArray) w
  | [], [], s, _ => by
    cases s; rename_i d; cases d; simp
  | [], _ :: _, _, h => by simp at h
  | _ :: _, [], _, h => by simp at h
  | v :: l, x :: xs, s, h => by
    simp only [List.map_cons, List.cons.injEq] at h
    obtain ⟨rfl, h⟩ := h
    have ih := run_bytes w f hf l xs (s.push (UInt8.ofNat x.toNat)) h
    simp only [List.forIn_cons, Sem.run_bind, hf, Result.andThen]
    simp only [ih]
    simp [ByteArray.push]

theorem evText_sound {o : Op} {e : Env} {ρ : Operand → Value} {H : Heap} {v : Value} {vc : List Prop} (h : evText P o e H = some (v, vc)) (hv : AllP vc) (henv : EnvOk ι e ρ) (hrh : RH ι H w) :
    ∃ s d x, o = .convert s d x ∧ Quiet P (convert s d (ρ x)) ι w v := by
  unfold evText at h
  split at h
  · rename_i s d x
    split at h
    · rename_i b r l c el hx hs hd
      split at h
      · rename_i own xs hel hb
        cases hr : Nat.beq r 0 with
        | false => simp [hr] at h
        | true =>
          simp only [hr, cond_true, Option.some.injEq, Prod.mk.injEq] at h
          obtain ⟨rfl, rfl⟩ := h
          have hl : l = xs.length := hv.1
          have hr0 := Nat.eq_of_beq_eq_true hr
          subst hr0
          refine ⟨s, d, x, rfl, ?_⟩
          have hvr := henv x _ hx
          have conv : ∀ y : Value, (∃ a n m, y = .slice a n m) → (convert s d y).run P w = (Conv.bytesToString y).run P w := by
            rintro y ⟨a, n, m, rfl⟩
            simp [convert, run_underlying hs, run_underlying hd, run_underlying hel]
          generalize ρ x = x' at hvr
          cases hvr with
          | slice hp hrb hlc hcap h0 =>
            rename_i c' p rb
            have hH := blkAt_eq.1 hb
            obtain ⟨cs, hlen, hrun, _, hget⟩ := run_rows (P := P) hrh hp hH hrb (by simp [Cont.sz]) (r := 0) (n := xs.length) (by simp [Cont.rows])
            have hcs : cs = xs.map (Value.int .u8) := by
              apply List.ext_getElem?
              intro i
              rcases Nat.lt_or_ge i xs.length with hi | hi
              · obtain ⟨v, u, h1, h2, h3⟩ := hget i 0 hi (by simp [Cont.sz])
                simp only [Cont.sz, Nat.mul_one, Nat.add_zero] at h1
                simp only [Cont.row, Nat.zero_add, List.getElem?_cons_zero, Option.some.injEq] at h2
                subst h2
                cases h3
                rw [h1]; simp [hi]
              · rw [List.getElem?_eq_none (by rw [hlen]; simpa [Cont.sz] using hi), List.getElem?_eq_none (by simpa using hi)]
            refine ⟨.string (bytesOf xs), w, ?_, Drawn.refl w, .string _⟩
            rw [conv _ ⟨_, _, _, rfl⟩]
            have hr1 := hrun w rfl
            simp only [Cont.sz, Nat.mul_one] at hr1
            subst hl
            simp only [Conv.bytesToString, Sem.run_bind, hr1, Result.andThen]
            simp only [List.forIn_toArray]
            rw [run_bytes (P := P) w _ (fun n s => rfl) cs xs ByteArray.empty hcs]
            rfl
          | slice0 hx0 =>
            have hx1 : xs = [] := List.eq_nil_of_length_eq_zero hl.symm
            subst hx1
            refine ⟨.string (bytesOf []), w, ?_, Drawn.refl w, .string _⟩
            rw [conv _ ⟨_, _, _, rfl⟩]
            rename_i y
            cases y with
            | none => rfl
            | some a => simp [Conv.bytesToString, loadCells, loadCellsFrom, bytesOf]; rfl
      · cases h
    · cases h
  · cases h

theorem evOpS_sound {o : Oper} {e : Env} {ρ : Operand → Value} {H : Heap} {os : List Orc} {r : Res} (h : evOpS P o.op e H os = some r) (hv : AllP r.vc) (henv : EnvOk ι e ρ) (hrh : RH ι H w) :
    OpRuns P o ρ ι H w r.v r.hp := by
  unfold evOpS at h
  split at h
  · rename_i v vc ht
    simp only [Option.some.injEq] at h; subst h
    obtain ⟨dst, op, ty, p_, after, guard⟩ := o
    obtain ⟨s, d, x, rfl, hq⟩ := evText_sound ht hv henv hrh
    exact op_of_runs (m := convert s d (ρ x)) rfl (runs_of_quiet hrh hq)
  · exact evOp_sound h hv henv hrh

/-- A region's operations in the order of the text. -/
theorem evOps_sound {ops : Array Oper} {Q : Exit → Act → World → Prop} : ∀ {l : List Oper} {k : Nat} {ι : List Place} {s s' : St} {os os' : List Orc} {vc : List Prop} {a : Act} {w : World}, (∀ (j : Nat), l[j]? = ops[k + j]?) →
    evOps P N ops.toList l s os = some (s', os', vc) → AllP vc → Rel N ι s a w →
    (∀ ι' a' w', Rel N ι' s' a' w' → Ext ι s.hp w ι' s'.hp w' → Q .normal a' w') → wpOps P ops Q (List.range' k l.length) a w
  | [], k, ι, s, s', os, os', vc, a, w, hl, h, hv, hr, hq => by
    simp only [evOps, Option.some.injEq, Prod.mk.injEq] at h
    obtain ⟨rfl, rfl, rfl⟩ := h
    simp only [List.length_nil, List.range'_zero, wpOps]
    exact hq ι a w hr (Ext.refl hr.rh)
  | o :: l, k, ι, s, s', os, os', vc, a, w, hl, h, hv, hr, hq => by
    have h0 : ops[k]? = some o := by simpa using (hl 0).symm
    have hl' : ∀ (j : Nat), l[j]? = ops[k + 1 + j]? := by
      intro j; have := hl (j + 1); simpa [Nat.add_assoc, Nat.add_comm 1 j] using this
    simp only [List.length_cons, List.range'_succ, wpOps, h0]
    simp only [evOps] at h
    split at h
    · rename_i os1 vg hg
      split at h
      · rename_i r hop
        split at h
        · rename_i e hput
          split at h
          · rename_i s2 os2 vc2 hrest
            simp only [Option.some.injEq, Prod.mk.injEq] at h
            obtain ⟨rfl, rfl, rfl⟩ := h
            obtain ⟨hv1, hv2⟩ := allP_append _ _ hv
            obtain ⟨hv0, hv1⟩ := allP_append _ _ hv1
            rw [hr.guard hg hv0, if_pos rfl]
            left
            refine (evOpS_sound hop hv1 (EnvOk.of_rel hr) hr.rh).wp fun ι' v' w' hvr hext => ?_
            exact evOps_sound hl' hrest hv2 (hr.put hput hvr hext) fun ι2 a2 w2 hr2 hx2 => hq ι2 a2 w2 hr2 (hext.trans hx2)
          · cases h
        · cases h
      · cases h
    · rename_i os1 vg hg
      split at h
      · rename_i e hput
        split at h
        · rename_i s2 os2 vc2 hrest
          simp only [Option.some.injEq, Prod.mk.injEq] at h
          obtain ⟨rfl, rfl, rfl⟩ := h
          obtain ⟨hv0, hv2⟩ := allP_append _ _ hv
          rw [hr.guard hg hv0, if_neg (by simp)]
          exact evOps_sound hl' hrest hv2 (hr.put hput vr_undef (Ext.refl hr.rh)) fun ι2 a2 w2 hr2 hx2 => hq ι2 a2 w2 hr2 hx2
        · cases h
      · cases h
    · cases h

theorem wp_region_text {id : Nat} {ops : Array Oper} {Q : Exit → Act → World → Prop} {s s' : St} {os os' : List Orc} {vc : List Prop} {a : Act} (h : evOps P N ops.toList ops.toList s os = some (s', os', vc)) (hv : AllP vc) (hr : Rel N ι s a w)
    (hq : ∀ ι' a' w', Rel N ι' s' a' w' → Ext ι s.hp w ι' s'.hp w' → Q .normal a' w') : (Code.region id ops false).wp P Q a w := by
  refine wp_region ?_
  have := evOps_sound (ops := ops) (Q := Q) (k := 0) (by intro j; simp) h hv hr hq
  rw [List.range_eq_range']
  simpa using this

end
end Go.Sim
