/- A pure account of the values, floats and memory of a run, and how it stands to the model's (part 15: one run in the order of the text serves every order). Conditions: none. -/
import Derived.Test.YtgjdkhocnnoimaaS12

section
namespace Go.Sim
open Go

theorem look_ins (t u : Nat) (v : Value) : ∀ (e : Env), look t (ins u v e) = if t = u then some v else look t e
  | [] => by
    simp only [ins, look]
    cases h : Nat.beq t u with
    | true => have := Nat.eq_of_beq_eq_true h; simp [this]
    | false => have : t ≠ u := fun e => by subst e; simp at h
               simp [this]
  | (x, y) :: r => by
    simp only [ins]
    cases h : Nat.beq u x with
    | true =>
      have hu := Nat.eq_of_beq_eq_true h
      subst hu
      simp only [cond_true, look]
      cases h2 : Nat.beq t u with
      | true => have := Nat.eq_of_beq_eq_true h2; simp [this]
      | false => have : t ≠ u := fun e => by subst e; simp at h2
                 simp [this]
    | false =>
      have hux : u ≠ x := fun e => by subst e; simp at h
      simp only [cond_false]
      cases h3 : Nat.ble u x with
      | true =>
        simp only [cond_true, look]
        cases h2 : Nat.beq t u with
        | true => have := Nat.eq_of_beq_eq_true h2; simp [this]
        | false => have : t ≠ u := fun e => by subst e; simp at h2
                   simp [this]
      | false =>
        simp only [cond_false, look]
        cases h2 : Nat.beq t x with
        | true =>
          have := Nat.eq_of_beq_eq_true h2
          subst this
          have : t ≠ u := fun e => hux e.symm
          simp [this]
        | false => simp only [cond_false]; exact look_ins t u v r

theorem tmps_put {a : Act} {N : Nat} (hs : a.tmps.size = N) {d : Nat} (hd : d < N) (v : Value) (t : Nat) : (a.put (some d) v).tmps.getD t undef = if t = d then v else a.tmps.getD t undef := by
  simp only [Act.put]
  by_cases h : t = d
  · subst h
    rw [if_pos rfl]
    simp [hs, hd]
  · rw [if_neg h]
    simp only [Array.getD_eq_getD_getElem?]
    rw [Array.getElem?_setIfInBounds_ne (fun e => h e.symm)]

theorem size_put (a : Act) (d : Option Tmp) (v : Value) : (a.put d v).tmps.size = a.tmps.size := by
  cases d <;> simp [Act.put]

theorem defers_put (a : Act) (d : Option Tmp) (v : Value) : (a.put d v).defers = a.defers := by
  cases d <;> simp [Act.put]

section
variable {P : Program} {N : Nat} {ι : List Place} {w : World}

theorem Rel.put {s : St} {a : Act} (h : Rel N ι s a w) {d : Option Tmp} {v v' : Value} {e : Env} {ι' : List Place} {H' : Heap} {w' : World} (hp : putD N d v s.tm = some e) (hv : VR ι' v v') (hx : Ext ι s.hp w ι' H' w') :
    Rel N ι' ⟨e, H'⟩ (a.put d v') w' := by
  refine ⟨by rw [size_put]; exact h.size, by rw [defers_put]; exact h.defers, fun t u ht => ?_, hx.rh⟩
  cases d with
  | none =>
    simp only [putD, Option.some.injEq] at hp; subst hp
    obtain ⟨h1, h2⟩ := h.env t u ht
    exact ⟨h1, h2.mono hx.sub⟩
  | some d =>
    simp only [putD] at hp
    cases hb : Nat.blt d N with
    | false => simp [hb] at hp
    | true =>
      have hd : d < N := Nat.le_of_ble_eq_true hb
      simp only [hb, cond_true, Option.some.injEq] at hp; subst hp
      simp only [look_ins] at ht
      rw [tmps_put h.size hd]
      split at ht
      · rename_i e; subst e
        cases ht
        exact ⟨hd, by rw [if_pos rfl]; exact hv⟩
      · rename_i e
        obtain ⟨h1, h2⟩ := h.env t u ht
        exact ⟨h1, by rw [if_neg e]; exact h2.mono hx.sub⟩

theorem guardB_sound {ops : Array Oper} {o : Oper} {e : Env} {a : Act} {os os1 : List Orc} {b : Bool} {vg : List Prop} (h : guardB ops.toList e o os = some (b, os1, vg)) (hv : AllP vg)
    (hn : a.tmps.size = N) (henv : ∀ (j : Nat) (want : Bool) (oj : Oper) (d : Nat) (v : Value), o.guard = some (j, want) → ops[j]? = some oj → oj.dst = some d → look d e = some v → d < N ∧ VR ι v (a.tmps.getD d undef)) :
    Region.wanted o (yielded ops a.tmps) = b := by
  unfold guardB at h
  unfold Region.wanted
  cases hg : o.guard with
  | none => simp [hg] at h; simp [h.1]
  | some p =>
    obtain ⟨j, want⟩ := p
    simp only [hg] at h ⊢
    split at h
    · rename_i oj hoj
      rw [nth_eq] at hoj
      have hoj' : ops[j]? = some oj := by simpa using hoj
      split at h
      · rename_i d hd
        split at h
        · rename_i hl
          simp only [Option.some.injEq, Prod.mk.injEq] at h
          obtain ⟨rfl, rfl, rfl⟩ := h
          obtain ⟨h1, h2⟩ := henv j want oj d _ hg hoj' hd hl
          have hy : yielded ops a.tmps j = none := by
            unfold yielded
            have h3 : d < a.tmps.size := by rw [hn]; exact h1
            rw [Array.getD_eq_getD_getElem?, Array.getElem?_eq_getElem h3] at h2
            simp only [Option.getD_some] at h2
            generalize hx : a.tmps[d] = x at h2
            cases h2 with | tuple h2 =>
            cases h2
            have : a.tmps[d]? = some (.tuple ⟨[]⟩) := by rw [Array.getElem?_eq_getElem h3, hx]
            simp [hoj', hd, this]
          rw [hy]
          rfl
        · rename_i t t' rest hl
          simp only [Option.some.injEq, Prod.mk.injEq] at h
          obtain ⟨rfl, rfl, rfl⟩ := h
          obtain ⟨h1, h2⟩ := henv j want oj d _ hg hoj' hd hl
          have ht : t = t' := hv.1
          subst ht
          have hy : yielded ops a.tmps j = some t := by
            unfold yielded
            have : a.tmps[d]? = some (.bool t) := by
              have h3 : d < a.tmps.size := by rw [hn]; exact h1
              rw [Array.getD_eq_getD_getElem?, Array.getElem?_eq_getElem h3] at h2
              simp only [Option.getD_some] at h2
              generalize hx : a.tmps[d] = x at h2
              cases h2
              rw [Array.getElem?_eq_getElem h3, hx]
            simp [hoj', hd, this]
          rw [hy]
          cases t <;> cases want <;> rfl
        · cases h
      · cases h
    · cases h

theorem Rel.guard {s : St} {a : Act} (h : Rel N ι s a w) {ops : Array Oper} {o : Oper} {os os1 : List Orc} {b : Bool} {vg : List Prop} (hg : guardB ops.toList s.tm o os = some (b, os1, vg)) (hv : AllP vg) :
    Region.wanted o (yielded ops a.tmps) = b :=
  guardB_sound (N := N) (ι := ι) hg hv h.size fun _ _ _ d v _ _ _ hl => h.env d v hl

/-- Bytes, one behind the other. -/
theorem run_bytes (w : World) (f : Value → ByteArray → Sem (ForInStep ByteArray)) (hf : ∀ (n : Int) (s : ByteArray), (f (.int .u8 n) s).run P w = .ok (.yield (s.push (UInt8.ofNat n.toNat))) w) : ∀ (l : List Value) (xs : List Int) (s : ByteArray), l = xs.map (Value.int .u8) →
    (forIn l s f).run P w = .ok (⟨⟨s.data.toList ++ xs.map fun n => UInt8.ofNat n.toNat⟩⟩ : ByteArray) w
  | [], [], s, _ => by
    cases s; rename_i d; cases d; simp
  | [], _ :: _, _, h => by simp at h
  | _ :: _, [], _, h => by simp at h
  | v :: l, x :: xs, s, h => by
    simp only [List.map_cons, List.cons.injEq] at h
    obtain ⟨rfl, h⟩ := h
    have ih := run_bytes w f hf l xs (s.push (UInt8.ofNat x.toNat)) h
    simp only [List.forIn_cons, Sem.run_bind, hf, Result.andThen]
    simp only [ih]
    simp [ByteArray.push]

theorem evText_sound {o : Op} {e : Env} {ρ : Operand → Value} {H : Heap} {v : Value} {vc : List Prop} (h : evText P o e H = some (v, vc)) (hv : AllP vc) (henv : EnvOk ι e ρ) (hrh : RH ι H w) :
    ∃ s d x, o = .convert s d x ∧ Quiet P (convert s d (ρ x)) ι w v := by
  unfold evText at h
  split at h
  · rename_i s d x
    split at h
    · rename_i b r l c el hx hs hd
      split at h
      · rename_i own xs hel hb
        cases hr : Nat.beq r 0 with
        | false => simp [hr] at h
        | true =>
          simp only [hr, cond_true, Option.some.injEq, Prod.mk.injEq] at h
          obtain ⟨rfl, rfl⟩ := h
          have hl : l = xs.length := hv.1
          have hr0 := Nat.eq_of_beq_eq_true hr
          subst hr0
          refine ⟨s, d, x, rfl, ?_⟩
          have hvr := henv x _ hx
          have conv : ∀ y : Value, (∃ a n m, y = .slice a n m) → (convert s d y).run P w = (Conv.bytesToString y).run P w := by
            rintro y ⟨a, n, m, rfl⟩
            simp [convert, run_underlying hs, run_underlying hd, run_underlying hel]
          generalize ρ x = x' at hvr
          cases hvr with
          | slice hp hrb hlc hcap h0 =>
            rename_i c' p rb
            have hH := blkAt_eq.1 hb
            obtain ⟨cs, hlen, hrun, _, hget⟩ := run_rows (P := P) hrh hp hH hrb (by simp [Cont.sz]) (r := 0) (n := xs.length) (by simp [Cont.rows])
            have hcs : cs = xs.map (Value.int .u8) := by
              apply List.ext_getElem?
              intro i
              rcases Nat.lt_or_ge i xs.length with hi | hi
              · obtain ⟨v, u, h1, h2, h3⟩ := hget i 0 hi (by simp [Cont.sz])
                simp only [Cont.sz, Nat.mul_one, Nat.add_zero] at h1
                simp only [Cont.row, Nat.zero_add, List.getElem?_cons_zero, Option.some.injEq] at h2
                subst h2
                cases h3
                rw [h1]; simp [hi]
              · rw [List.getElem?_eq_none (by rw [hlen]; simpa [Cont.sz] using hi), List.getElem?_eq_none (by simpa using hi)]
            refine ⟨.string (bytesOf xs), w, ?_, Drawn.refl w, .string _⟩
            rw [conv _ ⟨_, _, _, rfl⟩]
            have hr1 := hrun w rfl
            simp only [Cont.sz, Nat.mul_one] at hr1
            subst hl
            simp only [Conv.bytesToString, Sem.run_bind, hr1, Result.andThen]
            simp only [List.forIn_toArray]
            rw [run_bytes (P := P) w _ (fun n s => rfl) cs xs ByteArray.empty hcs]
            rfl
          | slice0 hx0 =>
            have hx1 : xs = [] := List.eq_nil_of_length_eq_zero hl.symm
            subst hx1
            refine ⟨.string (bytesOf []), w, ?_, Drawn.refl w, .string _⟩
            rw [conv _ ⟨_, _, _, rfl⟩]
            rename_i y
            cases y with
            | none => rfl
            | some a => simp [Conv.bytesToString, loadCells, loadCellsFrom, bytesOf]; rfl
      · cases h
    · cases h
  · cases h

theorem evOpS_sound {o : Oper} {e : Env} {ρ : Operand → Value} {H : Heap} {os : List Orc} {r : Res} (h : evOpS P o.op e H os = some r) (hv : AllP r.vc) (henv : EnvOk ι e ρ) (hrh : RH ι H w) :
    OpRuns P o ρ ι H w r.v r.hp := by
  unfold evOpS at h
  split at h
  · rename_i v vc ht
    simp only [Option.some.injEq] at h; subst h
    obtain ⟨dst, op, ty, p_, after, guard⟩ := o
    obtain ⟨s, d, x, rfl, hq⟩ := evText_sound ht hv henv hrh
    exact op_of_runs (m := convert s d (ρ x)) rfl (runs_of_quiet hrh hq)
  · exact evOp_sound h hv henv hrh

/-- A region's operations in the order of the text. -/
theorem evOps_sound {ops : Array Oper} {Q : Exit → Act → World → Prop} : ∀ {l : List Oper} {k : Nat} {ι : List Place} {s s' : St} {os os' : List Orc} {vc : List Prop} {a : Act} {w : World}, (∀ (j : Nat), l[j]? = ops[k + j]?) →
    evOps P N ops.toList l s os = some (s', os', vc) → AllP vc → Rel N ι s a w →
    (∀ ι' a' w', Rel N ι' s' a' w' → Ext ι s.hp w ι' s'.hp w' → Q .normal a' w') → wpOps P ops Q (List.range' k l.length) a w
  | [], k, ι, s, s', os, os', vc, a, w, hl, h, hv, hr, hq => by
    simp only [evOps, Option.some.injEq, Prod.mk.injEq] at h
    obtain ⟨rfl, rfl, rfl⟩ := h
    simp only [List.length_nil, List.range'_zero, wpOps]
    exact hq ι a w hr (Ext.refl hr.rh)
  | o :: l, k, ι, s, s', os, os', vc, a, w, hl, h, hv, hr, hq => by
    have h0 : ops[k]? = some o := by simpa using (hl 0).symm
    have hl' : ∀ (j : Nat), l[j]? = ops[k + 1 + j]? := by
      intro j; have := hl (j + 1); simpa [Nat.add_assoc, Nat.add_comm 1 j] using this
    simp only [List.length_cons, List.range'_succ, wpOps, h0]
    simp only [evOps] at h
    split at h
    · rename_i os1 vg hg
      split at h
      · rename_i r hop
        split at h
        · rename_i e hput
          split at h
          · rename_i s2 os2 vc2 hrest
            simp only [Option.some.injEq, Prod.mk.injEq] at h
            obtain ⟨rfl, rfl, rfl⟩ := h
            obtain ⟨hv1, hv2⟩ := allP_append _ _ hv
            obtain ⟨hv0, hv1⟩ := allP_append _ _ hv1
            rw [hr.guard hg hv0, if_pos rfl]
            left
            refine (evOpS_sound hop hv1 (EnvOk.of_rel hr) hr.rh).wp fun ι' v' w' hvr hext => ?_
            exact evOps_sound hl' hrest hv2 (hr.put hput hvr hext) fun ι2 a2 w2 hr2 hx2 => hq ι2 a2 w2 hr2 (hext.trans hx2)
          · cases h
        · cases h
      · cases h
    · rename_i os1 vg hg
      split at h
      · rename_i e hput
        split at h
        · rename_i s2 os2 vc2 hrest
          simp only [Option.some.injEq, Prod.mk.injEq] at h
          obtain ⟨rfl, rfl, rfl⟩ := h
          obtain ⟨hv0, hv2⟩ := allP_append _ _ hv
          rw [hr.guard hg hv0, if_neg (by simp)]
          exact evOps_sound hl' hrest hv2 (hr.put hput vr_undef (Ext.refl hr.rh)) fun ι2 a2 w2 hr2 hx2 => hq ι2 a2 w2 hr2 hx2
        · cases h
      · cases h
    · cases h

theorem wp_region_text {id : Nat} {ops : Array Oper} {Q : Exit → Act → World → Prop} {s s' : St} {os os' : List Orc} {vc : List Prop} {a : Act} (h : evOps P N ops.toList ops.toList s os = some (s', os', vc)) (hv : AllP vc) (hr : Rel N ι s a w)
    (hq : ∀ ι' a' w', Rel N ι' s' a' w' → Ext ι s.hp w ι' s'.hp w' → Q .normal a' w') : (Code.region id ops false).wp P Q a w := by
  refine wp_region ?_
  have := evOps_sound (ops := ops) (Q := Q) (k := 0) (by intro j; simp) h hv hr hq
  rw [List.range_eq_range']
  simpa using this

end
end Go.Sim
end

section
namespace Go.Sim
open Go

/-- What the lexical run of a region met at an operation: values and memory before it, what was told, whether its guard let it, its value, the memory behind it, what is to be shown. -/
structure Tr where
  e : Env
  H : Heap
  os : List Orc
  g : Bool
  v : Value
  H' : Heap
  vc : List Prop

def evTr (P : Program) (N : Nat) (all : List Oper) : List Oper → St → List Orc → Option (List Tr × St × List Orc)
  | [], s, os => some ([], s, os)
  | o :: l, s, os =>
    match guardB all s.tm o os with
    | some (true, os1, vg) =>
      match evOp P o.op s.tm s.hp os1 with
      | some r => match putD N o.dst r.v s.tm with
        | some e => match evTr P N all l ⟨e, r.hp⟩ r.os with
          | some (ts, s', os') => some (⟨s.tm, s.hp, os1, true, r.v, r.hp, vg ++ r.vc⟩ :: ts, s', os')
          | none => none
        | none => none
      | none => none
    | some (false, os1, vg) =>
      match putD N o.dst undef s.tm with
      | some e => match evTr P N all l ⟨e, s.hp⟩ os1 with
        | some (ts, s', os') => some (⟨s.tm, s.hp, os1, false, undef, s.hp, vg⟩ :: ts, s', os')
        | none => none
      | none => none
    | none => none

/-- An operation that may turn memory. -/
def isEff : Op → Bool
  | .store .. | .alloc _ | .box .. | .buildSlice .. | .makeSlice .. => true
  | .call ⟨.value _, _, _⟩ => true
  | .call ⟨.builtin .append, _, _⟩ => true
  | .call ⟨.builtin .copy, _, _⟩ => true
  | _ => false

/-- An operation that looks at memory. -/
def isRead : Op → Bool
  | .load .. | .indexAddr .. | .slice .. => true
  | _ => false

def maskOf (acc : List Nat) : List Edge → Nat
  | [] => 0
  | e :: l => bif Region.binds .any e then maskOf acc l ||| 2 ^ e.on ||| (nth acc e.on).getD 0 else maskOf acc l

/-- Of each operation, which must come before it. -/
def masks : List Oper → List Nat → List Nat
  | [], acc => acc
  | o :: l, acc => masks l (acc ++ [maskOf acc o.after.toList])

/-- A turning operation that is told to leave memory as it was. -/
def isQuiet (q i : Nat) (o : Oper) : Bool := isEff o.op && Nat.testBit q i

def effFrom (q k : Nat) : List Oper → List Nat
  | [] => []
  | o :: l => bif isEff o.op && !(Nat.testBit q k) then k :: effFrom q (k + 1) l else effFrom q (k + 1) l

def cnt (p : Nat → Bool) : List Nat → Nat
  | [] => 0
  | x :: l => bif p x then cnt p l + 1 else cnt p l

def allB {α : Type} (p : α → Bool) : List α → Bool
  | [] => true
  | x :: l => p x && allB p l

def anc (M : List Nat) (j i : Nat) : Bool := Nat.testBit ((nth M i).getD 0) j

/-- Of temporary 't', looked at by operation 'i', each writer stands apart from 'i' by an edge. -/
def readsOk (M : List Nat) (i t : Nat) : Nat → List Oper → Bool
  | _, [] => true
  | j, o :: l => (match o.dst with
    | some d => bif Nat.beq d t then (bif Nat.blt j i then anc M j i else Nat.blt i j && anc M i j) else true
    | none => true) && readsOk M i t (j + 1) l

/-- No other operation writes what 'i' writes. -/
def onceDst (d : Nat) : List Oper → Bool
  | [] => true
  | o :: l => (match o.dst with | some d' => !(Nat.beq d d') | none => true) && onceDst d l

def tmpsOf (ops : List Oper) (o : Oper) : List Nat :=
  (o.op.operands.toList.filterMap fun | .tmp t => some t | _ => none) ++
  (match o.guard with
   | some (g, _) => ((nth ops g).bind (·.dst)).toList
   | none => [])

def eachOk (M : List Nat) (ops : List Oper) : Nat → List Oper → Bool
  | _, [] => true
  | i, o :: l =>
    allB (fun e => !(Region.binds .any e) || Nat.blt e.on i) o.after.toList &&
    allB (fun t => readsOk M i t 0 ops) (tmpsOf ops o) &&
    (match o.dst with | some d => onceDst d l | none => true) &&
    (match o.op with | .select .. => false | _ => true) &&
    eachOk M ops (i + 1) l

/-- The operation that may come early. -/
def isF (f : Option Nat) (b : Nat) : Bool := match f with
  | some x => Nat.beq x b
  | none => false

def pairOk (M : List Nat) (f : Option Nat) : List Nat → Bool
  | [] => true
  | a :: l => allB (fun b => anc M a b || isF f b) l && pairOk M f l

/-- What stands behind the early operation stands behind all effects ahead of it in the text. -/
def behindOk (M E : List Nat) (x : Nat) : Nat → List Oper → Bool
  | _, [] => true
  | i, _ :: l => (!(anc M x i) || allB (fun e => !(Nat.blt e x) || anc M e i) E) && behindOk M E x (i + 1) l

def floatOk (M E : List Nat) (ops : List Oper) : Option Nat → Bool
  | none => true
  | some x => !(allB (fun e => !(Nat.beq e x)) E) && behindOk M E x 0 ops

def drawOk (q : Nat) (f : Option Nat) (ops : List Oper) : Bool :=
  let M := masks ops []
  eachOk M ops 0 ops && pairOk M f (effFrom q 0 ops) && floatOk M (effFrom q 0 ops) ops f

/-- A value of one cell that holds no address. -/
def flat1 : Value → Bool
  | .bool _ | .int _ _ | .float _ _ | .complex _ _ _ | .string _ | .pointer none | .slice none 0 0 | .nilFunc => true
  | _ => false

def flatC : Cont → Bool
  | .vs l => allP flat1 l
  | _ => true

/-- Blocks of 'H2' that are only read stood in 'H'. -/
def keepsRO : Heap → Heap → Bool
  | some _ :: H, some _ :: H2 => keepsRO H H2
  | none :: H, some c :: H2 => c.own && keepsRO H H2
  | [], some c :: H2 => c.own && keepsRO [] H2
  | _ :: H, none :: H2 => keepsRO H H2
  | [], none :: H2 => keepsRO [] H2
  | _, [] => true

/-- A value of one cell whose addresses name blocks below 'n'. -/
def below1 (n : Nat) : Value → Bool
  | .pointer (some ⟨b, _, some _⟩) => Nat.blt b n
  | .slice (some ⟨b, _, none⟩) _ _ => Nat.blt b n
  | v => flat1 v

def belowC (n : Nat) : Cont → Bool
  | .vs l => allP (below1 n) l
  | _ => true

def belowH (n : Nat) : Heap → Bool
  | [] => true
  | some b :: H => belowC n b.c && belowH n H
  | none :: H => belowH n H

/-- A new block's address, by another name. -/
def mv (b' : Nat) : Value → Value
  | .slice (some ⟨_, i, none⟩) l c => .slice (some ⟨b', i, none⟩) l c
  | .pointer (some ⟨_, i, some j⟩) => .pointer (some ⟨b', i, some j⟩)
  | v => v

def isNew : Value → Bool
  | .slice (some ⟨_, _, none⟩) _ _ => true
  | .pointer (some ⟨_, _, some _⟩) => true
  | _ => false

/-- What a read gives at another memory. -/
def readAt (P : Program) (o : Oper) (t : Tr) (H : Heap) : Option (List Prop) :=
  match evOp P o.op t.e H t.os with
  | some r => some ((r.v = t.v) :: (bif isEff o.op then (r.hp = H) :: r.vc else r.vc))
  | none => none

/-- The memories at which a read may come. -/
def readAll (P : Program) (o : Oper) (t : Tr) (own lo hi : Nat) : Nat → List Heap → Option (List Prop)
  | _, [] => some []
  | k, H :: l => bif !(Nat.beq k own) && Nat.ble lo k && Nat.ble k hi then
      match readAt P o t H, readAll P o t own lo hi (k + 1) l with
      | some a, some b => some (a ++ b)
      | _, _ => none
    else readAll P o t own lo hi (k + 1) l

def readVcs (P : Program) (q : Nat) (M : List Nat) (E : List Nat) (HS : List Heap) : Nat → List Oper → List Tr → Option (List Prop)
  | _, [], [] => some []
  | i, o :: l, t :: ts =>
    match readVcs P q M E HS (i + 1) l ts with
    | some b => bif (isRead o.op || isQuiet q i o) && t.g then
        match readAll P o t (cnt (fun e => Nat.blt e i) E) (cnt (fun e => anc M e i) E) (cnt (fun e => !anc M i e) E) 0 HS with
        | some a => some (t.vc ++ (bif isEff o.op then (t.H' = t.H) :: a else a) ++ b)
        | none => none
      else some (t.vc ++ b)
    | none => none
  | _, _, _ => none

def pickH (E : List Nat) (ts : List Tr) : List Heap :=
  match E with
  | [] => []
  | e :: E => match nth ts e with
    | some t => t.H' :: pickH E ts
    | none => pickH E ts

/-- The memory's last block. -/
def lastB : Heap → Option Blk
  | [] => none
  | [some b] => some b
  | _ :: l => lastB l

/-- The memories ahead of the early operation: their blocks do not name the one to come, and what is only read in the next stood in the one before. -/
def heapsOk : Nat → List Heap → Bool
  | k + 1, H :: H2 :: HS => belowH H.length H && keepsRO H H2 && heapsOk k (H2 :: HS)
  | 0, _ => true
  | _ + 1, _ => false

/-- The early operation at the memories ahead of its own. -/
def floatAll (P : Program) (o : Oper) (t : Tr) (b : Blk) (lo hi : Nat) : Nat → List Heap → Option (List Prop)
  | _, [] => some []
  | k, H :: l => bif Nat.ble lo k && Nat.blt k hi then
      match evOp P o.op t.e H t.os, floatAll P o t b lo hi (k + 1) l with
      | some r, some c => some ((r.v = mv H.length t.v) :: (r.hp = H ++ [some b]) :: (r.vc ++ c))
      | _, _ => none
    else floatAll P o t b lo hi (k + 1) l

def floatVcs (P : Program) (M E : List Nat) (HS : List Heap) (ops : List Oper) (ts : List Tr) : Option Nat → Option (List Prop)
  | none => some []
  | some x => match nth ops x, nth ts x with
    | some o, some t => match lastB t.H' with
      | some b => bif t.g && b.own && flatC b.c && isNew t.v && heapsOk (cnt (fun e => Nat.blt e x) E) HS then
          match floatAll P o t b (cnt (fun e => anc M e x) E) (cnt (fun e => Nat.blt e x) E) 0 HS with
          | some c => some ((t.v = mv t.H.length t.v) :: (t.H' = t.H ++ [some b]) :: c)
          | none => none
        else none
      | none => none
    | _, _ => none

/-- Which of a region's calls are told to leave memory as it was, and which allocation may come early. -/
def quietOf : List Orc → Nat × Option Nat × List Orc
  | .q m f :: os => (m, f, os)
  | os => (0, none, os)

/-- A region whose order is drawn. -/
def evDraw (P : Program) (N : Nat) (ops : List Oper) (s : St) (os : List Orc) : Option (St × List Orc × List Prop) :=
  match quietOf os with
  | (q, f, os) =>
    bif drawOk q f ops then
      match evTr P N ops ops s os with
      | some (ts, s', os') =>
        match readVcs P q (masks ops []) (effFrom q 0 ops) (s.hp :: pickH (effFrom q 0 ops) ts) 0 ops ts, floatVcs P (masks ops []) (effFrom q 0 ops) (s.hp :: pickH (effFrom q 0 ops) ts) ops ts f with
        | some vc, some vf => some (s', os', vc ++ vf)
        | _, _ => none
      | none => none
    else none

/-! ### The order's ancestors -/

theorem maskOf_spec (acc : List Nat) : ∀ {es : List Edge} {j : Nat}, Nat.testBit (maskOf acc es) j = true → ∃ e ∈ es, Region.binds .any e = true ∧ (j = e.on ∨ Nat.testBit ((nth acc e.on).getD 0) j = true)
  | [], j, h => by simp [maskOf] at h
  | e :: es, j, h => by
    simp only [maskOf] at h
    cases hb : Region.binds .any e with
    | false =>
      simp only [hb, cond_false] at h
      obtain ⟨e', h1, h2⟩ := maskOf_spec acc h
      exact ⟨e', List.mem_cons_of_mem _ h1, h2⟩
    | true =>
      simp only [hb, cond_true, Nat.testBit_or, Bool.or_eq_true] at h
      rcases h with (h | h) | h
      · obtain ⟨e', h1, h2⟩ := maskOf_spec acc h
        exact ⟨e', List.mem_cons_of_mem _ h1, h2⟩
      · rw [Nat.testBit_two_pow] at h
        exact ⟨e, List.mem_cons_self .., hb, .inl (of_decide_eq_true h).symm⟩
      · exact ⟨e, List.mem_cons_self .., hb, .inr h⟩

theorem masks_prefix : ∀ (l : List Oper) (acc : List Nat), ∃ r, masks l acc = acc ++ r ∧ r.length = l.length
  | [], acc => ⟨[], by simp [masks]⟩
  | o :: l, acc => by
    obtain ⟨r, h1, h2⟩ := masks_prefix l (acc ++ [maskOf acc o.after.toList])
    exact ⟨maskOf acc o.after.toList :: r, by simp [masks, h1], by simp [h2]⟩

theorem masks_get : ∀ (l : List Oper) (acc : List Nat) (i : Nat) (o : Oper), l[i]? = some o →
    ∃ pre, (masks l acc)[acc.length + i]? = some (maskOf pre o.after.toList) ∧ pre.length = acc.length + i ∧ ∀ k, k < acc.length + i → pre[k]? = (masks l acc)[k]?
  | [], acc, i, o, h => by simp at h
  | o' :: l, acc, 0, o, h => by
    simp at h; subst h
    obtain ⟨r, h1, h2⟩ := masks_prefix l (acc ++ [maskOf acc o'.after.toList])
    refine ⟨acc, ?_, by simp, fun k hk => ?_⟩
    · simp only [masks, h1]; simp
    · simp only [masks, h1]
      rw [List.append_assoc, List.getElem?_append_left (by omega)]
  | o' :: l, acc, i + 1, o, h => by
    obtain ⟨pre, h1, h2, h3⟩ := masks_get l (acc ++ [maskOf acc o'.after.toList]) i o (by simpa using h)
    simp only [List.length_append, List.length_cons, List.length_nil] at h1 h2 h3
    refine ⟨pre, ?_, by omega, fun k hk => h3 k (by omega)⟩
    simp only [masks]
    rw [← h1]; congr 1; omega

/-- An ancestor is a named edge's end, or an ancestor of one. -/
theorem anc_spec {ops : List Oper} {i j : Nat} {o : Oper} (ho : ops[i]? = some o) (hback : ∀ e ∈ o.after.toList, Region.binds .any e = true → e.on < i) (h : anc (masks ops []) j i = true) :
    ∃ e ∈ o.after.toList, Region.binds .any e = true ∧ (j = e.on ∨ anc (masks ops []) j e.on = true) := by
  obtain ⟨pre, h1, h2, h3⟩ := masks_get ops [] i o ho
  simp only [List.length_nil, Nat.zero_add] at h1 h2 h3
  unfold anc at h
  rw [nth_eq, h1] at h
  simp only [Option.getD_some] at h
  obtain ⟨e, he, hb, hj⟩ := maskOf_spec pre h
  refine ⟨e, he, hb, ?_⟩
  rcases hj with hj | hj
  · exact .inl hj
  · right
    have := hback e he hb
    unfold anc
    rw [nth_eq] at hj ⊢
    rw [← h3 e.on this]; exact hj

theorem allB_spec {α : Type} {p : α → Bool} : ∀ {l : List α}, allB p l = true → ∀ x ∈ l, p x = true
  | [], _, x, hx => by cases hx
  | y :: l, h, x, hx => by
    simp only [allB, Bool.and_eq_true] at h
    rcases List.mem_cons.1 hx with rfl | hx
    · exact h.1
    · exact allB_spec h.2 x hx

theorem readsOk_spec {M : List Nat} {i t : Nat} : ∀ {l : List Oper} {k : Nat}, readsOk M i t k l = true → ∀ (j : Nat) (o : Oper), l[j]? = some o → o.dst = some t →
    (k + j < i ∧ anc M (k + j) i = true) ∨ (i < k + j ∧ anc M i (k + j) = true)
  | [], k, _, j, o, h, _ => by simp at h
  | o' :: l, k, h, j, o, hj, hd => by
    simp only [readsOk, Bool.and_eq_true] at h
    cases j with
    | zero =>
      simp at hj; subst hj
      have h1 := h.1
      rw [hd] at h1
      simp only [Nat.add_zero]
      have hbt : Nat.beq t t = true := by simp
      simp only [hbt, cond_true] at h1
      cases hb : Nat.blt k i with
      | true => exact .inl ⟨Nat.le_of_ble_eq_true hb, by simpa [hb] using h1⟩
      | false =>
        simp only [hb, cond_false, Bool.and_eq_true] at h1
        exact .inr ⟨Nat.le_of_ble_eq_true h1.1, h1.2⟩
    | succ j =>
      have := readsOk_spec h.2 j o (by simpa using hj) hd
      simpa [Nat.add_assoc, Nat.add_comm 1 j] using this

theorem onceDst_spec {d : Nat} : ∀ {l : List Oper}, onceDst d l = true → ∀ (j : Nat) (o : Oper), l[j]? = some o → o.dst ≠ some d
  | [], _, j, o, h => by simp at h
  | o' :: l, h, j, o, hj => by
    simp only [onceDst, Bool.and_eq_true] at h
    cases j with
    | zero =>
      simp at hj; subst hj
      intro hd
      have h1 := h.1
      rw [hd] at h1
      simp at h1
    | succ j => exact onceDst_spec h.2 j o (by simpa using hj)

structure EachOk (ops : List Oper) (i : Nat) (o : Oper) : Prop where
  back : ∀ e ∈ o.after.toList, Region.binds .any e = true → e.on < i
  reads : ∀ t ∈ tmpsOf ops o, ∀ (j : Nat) (o' : Oper), ops[j]? = some o' → o'.dst = some t → (j < i ∧ anc (masks ops []) j i = true) ∨ (i < j ∧ anc (masks ops []) i j = true)
  once : ∀ d, o.dst = some d → ∀ (j : Nat) (o' : Oper), i < j → ops[j]? = some o' → o'.dst ≠ some d
  sel : ∀ cs b, o.op ≠ .select cs b

theorem eachOk_spec {ops : List Oper} : ∀ {l : List Oper} {k : Nat}, (∀ (j : Nat), l[j]? = ops[k + j]?) → eachOk (masks ops []) ops k l = true → ∀ (i : Nat) (o : Oper), k ≤ i → ops[i]? = some o → EachOk ops i o
  | [], k, hl, _, i, o, hi, ho => by
    have := hl (i - k)
    rw [show k + (i - k) = i from by omega, ho] at this
    simp at this
  | o' :: l, k, hl, h, i, o, hi, ho => by
    simp only [eachOk, Bool.and_eq_true] at h
    obtain ⟨⟨⟨⟨h1, h2⟩, h3⟩, h4⟩, h5⟩ := h
    have hl' : ∀ (j : Nat), l[j]? = ops[k + 1 + j]? := by
      intro j; have := hl (j + 1); simpa [Nat.add_assoc, Nat.add_comm 1 j] using this
    rcases Nat.lt_or_ge k i with hki | hki
    · exact eachOk_spec hl' h5 i o hki ho
    · have : i = k := by omega
      subst this
      have h0 : o' = o := by
        have := hl 0
        simp only [List.getElem?_cons_zero, Nat.add_zero, ho, Option.some.injEq] at this
        exact this
      subst h0
      refine ⟨fun e he hb => ?_, fun t ht j o2 hj hd => ?_, fun d hd j o2 hij hj => ?_, fun cs b e => ?_⟩
      · have := allB_spec h1 e he
        simp only [hb, Bool.not_true, Bool.false_or] at this
        exact Nat.le_of_ble_eq_true this
      · have := readsOk_spec (allB_spec h2 t ht) j o2 hj hd
        simpa using this
      · rw [hd] at h3
        exact onceDst_spec h3 (j - (i + 1)) o2 (by rw [hl', show i + 1 + (j - (i + 1)) = j from by omega]; exact hj)
      · rw [e] at h4; cases h4

theorem pairOk_spec {M : List Nat} {f : Option Nat} : ∀ {E : List Nat}, pairOk M f E = true → ∀ (x y : Nat) (a b : Nat), x < y → E[x]? = some a → E[y]? = some b → anc M a b = true ∨ f = some b
  | [], _, x, y, a, b, _, hx, _ => by simp at hx
  | c :: E, h, x, y, a, b, hxy, hx, hy => by
    simp only [pairOk, Bool.and_eq_true] at h
    cases y with
    | zero => omega
    | succ y =>
      cases x with
      | zero =>
        simp at hx; subst hx
        have := allB_spec h.1 b (List.mem_of_getElem? (by simpa using hy))
        simp only [Bool.or_eq_true] at this
        rcases this with h' | h'
        · exact .inl h'
        · right
          unfold isF at h'
          cases f with
          | none => cases h'
          | some x => rw [Nat.eq_of_beq_eq_true h']
      | succ x => exact pairOk_spec h.2 x y a b (by omega) (by simpa using hx) (by simpa using hy)

theorem cnt_le {p q : Nat → Bool} : ∀ {E : List Nat}, (∀ e ∈ E, p e = true → q e = true) → cnt p E ≤ cnt q E
  | [], _ => Nat.le_refl _
  | x :: E, h => by
    have ih := cnt_le (p := p) (q := q) (E := E) fun e he => h e (List.mem_cons_of_mem _ he)
    simp only [cnt]
    cases hp : p x with
    | true => rw [h x (List.mem_cons_self ..) hp]; simpa using ih
    | false => cases hq : q x <;> simp <;> omega

theorem cnt_congr {p q : Nat → Bool} {E : List Nat} (h : ∀ e ∈ E, p e = q e) : cnt p E = cnt q E :=
  Nat.le_antisymm (cnt_le fun e he hp => by rw [← h e he]; exact hp) (cnt_le fun e he hq => by rw [h e he]; exact hq)

theorem effFrom_spec {q : Nat} : ∀ {l : List Oper} {k : Nat} (i : Nat), i ∈ effFrom q k l ↔ k ≤ i ∧ ∃ o, l[i - k]? = some o ∧ isEff o.op = true ∧ Nat.testBit q i = false
  | [], k, i => by simp [effFrom]
  | o :: l, k, i => by
    have ih := effFrom_spec (q := q) (l := l) (k := k + 1) i
    have hidx : ∀ (h : k + 1 ≤ i), (o :: l)[i - k]? = l[i - (k + 1)]? := by
      intro h
      rw [show i - k = (i - (k + 1)) + 1 from by omega]; simp
    simp only [effFrom]
    cases he : (isEff o.op && !(Nat.testBit q k)) with
    | true =>
      simp only [Bool.and_eq_true, Bool.not_eq_true'] at he
      simp only [cond_true, List.mem_cons, ih]
      constructor
      · rintro (rfl | ⟨h1, h2⟩)
        · exact ⟨Nat.le_refl _, o, by simp, he⟩
        · exact ⟨by omega, by rw [hidx h1]; exact h2⟩
      · rintro ⟨h1, o', h2, h3⟩
        rcases Nat.lt_or_ge k i with h | h
        · exact .inr ⟨h, o', by rw [← hidx h]; exact h2, h3⟩
        · exact .inl (by omega)
    | false =>
      simp only [cond_false, ih]
      constructor
      · rintro ⟨h1, h2⟩; exact ⟨by omega, by rw [hidx h1]; exact h2⟩
      · rintro ⟨h1, o', h2, h3⟩
        rcases Nat.lt_or_ge k i with h | h
        · exact ⟨h, o', by rw [← hidx h]; exact h2, h3⟩
        · have : i = k := by omega
          subst this
          simp at h2; subst h2
          rw [h3.1, h3.2] at he; cases he

theorem effFrom_sorted {q : Nat} : ∀ {l : List Oper} {k x y a b : Nat}, x < y → (effFrom q k l)[x]? = some a → (effFrom q k l)[y]? = some b → a < b
  | [], k, x, y, a, b, _, hx, _ => by simp [effFrom] at hx
  | o :: l, k, x, y, a, b, hxy, hx, hy => by
    simp only [effFrom] at hx hy
    cases he : (isEff o.op && !(Nat.testBit q k)) with
    | false => simp only [he, cond_false] at hx hy; exact effFrom_sorted hxy hx hy
    | true =>
      simp only [he, cond_true] at hx hy
      cases y with
      | zero => omega
      | succ y =>
        have hb := (effFrom_spec (q := q) (l := l) (k := k + 1) b).1 (List.mem_of_getElem? (by simpa using hy))
        cases x with
        | zero => simp at hx; omega
        | succ x => exact effFrom_sorted (x := x) (y := y) (by omega) (by simpa using hx) (by simpa using hy)

theorem behindOk_spec {M E : List Nat} {x : Nat} : ∀ {l : List Oper} {k : Nat}, behindOk M E x k l = true → ∀ (i : Nat), k ≤ i → i < k + l.length → anc M x i = true → ∀ e ∈ E, e < x → anc M e i = true
  | [], k, _, i, h1, h2, _ => by simp at h2; omega
  | o :: l, k, h, i, h1, h2, ha => by
    simp only [behindOk, Bool.and_eq_true] at h
    rcases Nat.lt_or_ge k i with hk | hk
    · exact behindOk_spec h.2 i hk (by simp at h2; omega) ha
    · have : i = k := by omega
      subst this
      intro e he hlt
      have h3 := h.1
      rw [ha] at h3
      simp only [Bool.not_true, Bool.false_or] at h3
      have h4 := allB_spec h3 e he
      simp only [Bool.or_eq_true, Bool.not_eq_true'] at h4
      rcases h4 with h4 | h4
      · have : Nat.blt e x = true := Nat.ble_eq_true_of_le hlt
        rw [this] at h4; cases h4
      · exact h4

theorem floatOk_spec {M E : List Nat} {ops : List Oper} {x : Nat} (h : floatOk M E ops (some x) = true) : x ∈ E ∧ ∀ (i : Nat), i < ops.length → anc M x i = true → ∀ e ∈ E, e < x → anc M e i = true := by
  simp only [floatOk, Bool.and_eq_true, Bool.not_eq_true'] at h
  refine ⟨?_, fun i hi => behindOk_spec h.2 i (Nat.zero_le _) (by omega)⟩
  by_cases hx : x ∈ E
  · exact hx
  · exfalso
    have key : ∀ (l : List Nat), x ∉ l → allB (fun e => !(Nat.beq e x)) l = true := by
      intro l
      induction l with
      | nil => intro _; rfl
      | cons y l ih =>
        intro hn
        simp only [List.mem_cons, not_or] at hn
        simp only [allB, Bool.and_eq_true, Bool.not_eq_true']
        refine ⟨?_, ih hn.2⟩
        cases hb : Nat.beq y x with
        | false => rfl
        | true => exact absurd (Nat.eq_of_beq_eq_true hb).symm hn.1
    rw [key E hx] at h; cases h.1

theorem heapsOk_spec : ∀ {n : Nat} {HS : List Heap}, heapsOk n HS = true → ∀ (k : Nat), k < n → ∃ H H2, HS[k]? = some H ∧ HS[k + 1]? = some H2 ∧ belowH H.length H = true ∧ keepsRO H H2 = true
  | 0, _, _, k, hk => by omega
  | n + 1, [], h, _, _ => by cases h
  | n + 1, [_], h, _, _ => by cases h
  | n + 1, H :: H2 :: HS, h, k, hk => by
    simp only [heapsOk, Bool.and_eq_true] at h
    cases k with
    | zero => exact ⟨H, H2, rfl, rfl, h.1.1, h.1.2⟩
    | succ k =>
      obtain ⟨A, B, e1, e2, e3⟩ := heapsOk_spec h.2 k (by omega)
      exact ⟨A, B, by simpa using e1, by simpa using e2, e3⟩

theorem floatAll_spec {P : Program} {o : Oper} {t : Tr} {b : Blk} {lo hi : Nat} : ∀ {HS : List Heap} {k : Nat} {c : List Prop}, floatAll P o t b lo hi k HS = some c → AllP c →
    ∀ (j : Nat) (H : Heap), HS[j]? = some H → lo ≤ k + j → k + j < hi → ∃ r, evOp P o.op t.e H t.os = some r ∧ r.v = mv H.length t.v ∧ r.hp = H ++ [some b] ∧ AllP r.vc
  | [], k, c, _, _, j, H, hj, _, _ => by simp at hj
  | H0 :: HS, k, c, h, hv, j, H, hj, h1, h2 => by
    simp only [floatAll] at h
    cases hc : (Nat.ble lo k && Nat.blt k hi) with
    | true =>
      simp only [hc, cond_true] at h
      split at h
      · rename_i r c1 hr hc1
        simp only [Option.some.injEq] at h; subst h
        obtain ⟨v1, v2, v3⟩ := hv
        obtain ⟨v3, v4⟩ := allP_append _ _ v3
        cases j with
        | zero => simp at hj; subst hj; exact ⟨r, hr, v1, v2, v3⟩
        | succ j => exact floatAll_spec hc1 v4 j H (by simpa using hj) (by omega) (by omega)
      · cases h
    | false =>
      simp only [hc, cond_false] at h
      cases j with
      | zero =>
        exfalso
        have : (Nat.ble lo k && Nat.blt k hi) = true := by
          simp only [Bool.and_eq_true]
          exact ⟨Nat.ble_eq_true_of_le h1, Nat.ble_eq_true_of_le (show k + 1 ≤ hi from h2)⟩
        rw [this] at hc; cases hc
      | succ j => exact floatAll_spec h hv j H (by simpa using hj) (by omega) (by omega)

end Go.Sim
end

section
namespace Go.Sim
open Go

/-! ### An operation depends on what it looks at -/

def opTmps (o : Op) : List Nat := o.operands.toList.filterMap fun | .tmp t => some t | _ => none

/-- The values of some temporaries. -/
def onlyE (ts : List Nat) : Env → Env
  | [] => []
  | (t, v) :: e => bif ts.contains t then (t, v) :: onlyE ts e else onlyE ts e

theorem look_onlyE (ts : List Nat) (t : Nat) : ∀ e : Env, look t (onlyE ts e) = if t ∈ ts then look t e else none
  | [] => by simp [onlyE, look]
  | (u, v) :: e => by
    have ih := look_onlyE ts t e
    simp only [onlyE]
    cases hc : ts.contains u with
    | true =>
      have hu : u ∈ ts := by simpa using hc
      simp only [cond_true, look]
      cases hb : Nat.beq t u with
      | true => have := Nat.eq_of_beq_eq_true hb; subst this; simp [hu]
      | false => simpa using ih
    | false =>
      have hu : u ∉ ts := by simpa using hc
      simp only [cond_false, look]
      cases hb : Nat.beq t u with
      | true => have := Nat.eq_of_beq_eq_true hb; subst this; rw [ih]; simp [hu]
      | false => simpa using ih

theorem evx_onlyE {ts : List Nat} {e : Env} {x : Operand} (h : ∀ t, x = .tmp t → t ∈ ts) : evx (onlyE ts e) x = evx e x := by
  cases x with
  | tmp t => simp only [evx]; rw [look_onlyE, if_pos (h t rfl)]
  | _ => rfl

theorem evxs_onlyE {ts : List Nat} {e : Env} : ∀ {l : List Operand}, (∀ t, Operand.tmp t ∈ l → t ∈ ts) → evxs (onlyE ts e) l = evxs e l
  | [], _ => rfl
  | x :: l, h => by
    simp only [evxs]
    rw [evx_onlyE (fun t ht => h t (by rw [ht]; exact List.mem_cons_self ..)), evxs_onlyE fun t ht => h t (List.mem_cons_of_mem _ ht)]

theorem evParts_onlyE {ts : List Nat} {e : Env} : ∀ {l : List (Nat × Operand)}, (∀ t, Operand.tmp t ∈ l.map (·.2) → t ∈ ts) → evParts (onlyE ts e) l = evParts e l
  | [], _ => rfl
  | (i, x) :: l, h => by
    simp only [evParts]
    rw [evx_onlyE (fun t ht => h t (by simp [ht])), evParts_onlyE fun t ht => h t (by simp only [List.map_cons, List.mem_cons]; exact .inr ht)]

theorem mem_opTmps {o : Op} {t : Nat} (h : Operand.tmp t ∈ o.operands.toList) : t ∈ opTmps o := List.mem_filterMap.2 ⟨_, h, rfl⟩

theorem evOpt_onlyE {ts : List Nat} {e : Env} {x : Option Operand} (h : ∀ t, x = some (.tmp t) → t ∈ ts) : evOpt (onlyE ts e) x = evOpt e x := by
  cases x with
  | none => rfl
  | some x => simp only [evOpt]; rw [evx_onlyE fun t ht => h t (by rw [ht])]

theorem evOp_onlyE (P : Program) (o : Op) (ts : List Nat) (hts : ∀ t ∈ opTmps o, t ∈ ts) (e : Env) (H : Heap) (os : List Orc) : evOp P o (onlyE ts e) H os = evOp P o e H os := by
  have hx : ∀ x, x ∈ o.operands.toList → evx (onlyE ts e) x = evx e x := fun x hx => evx_onlyE fun t ht => hts t (mem_opTmps (by rw [← ht]; exact hx))
  cases o <;> simp only [evOp, Op.operands] at hx ⊢
  case move x => rw [hx x (by simp)]
  case assign x => rw [hx x (by simp)]
  case pick c a b =>
    rw [hx c (by simp)]
    split
    · rename_i t t' r _ _
      congr 2
      cases t'
      · exact hx b (by simp)
      · exact hx a (by simp)
    · rfl
  case box t x => rw [hx x (by simp)]
  case build t ps => rw [evParts_onlyE fun t ht => hts t (mem_opTmps (by simpa [Op.operands] using ht))]
  case buildSlice t n ps => rw [evParts_onlyE fun t ht => hts t (mem_opTmps (by simpa [Op.operands] using ht))]
  case load t a => rw [hx a (by simp)]
  case store t a x => rw [hx a (by simp), hx x (by simp)]
  case nilCheck x => rw [hx x (by simp)]
  case binOp op t x y yt => rw [hx x (by simp), hx y (by simp)]
  case unOp op t x => rw [hx x (by simp)]
  case convert s d x => rw [hx x (by simp)]
  case makeFunc fn fs cs =>
    rw [evxs_onlyE fun t ht => hts t (mem_opTmps (by simp only [Op.operands, Array.toList_append, List.mem_append]; exact .inl ht)),
      evxs_onlyE fun t ht => hts t (mem_opTmps (by simp only [Op.operands, Array.toList_append, List.mem_append]; exact .inr ht))]
  case makeSlice t l c => rw [hx l (by simp), hx c (by simp)]
  case slice t x lo hi mx =>
    rw [hx x (by simp), evOpt_onlyE fun t ht => hts t (mem_opTmps (by simp [Op.operands, ht])), evOpt_onlyE fun t ht => hts t (mem_opTmps (by simp [Op.operands, ht])), evOpt_onlyE fun t ht => hts t (mem_opTmps (by simp [Op.operands, ht]))]
  case fieldAddr t x f => rw [hx x (by simp)]
  case field t x f => rw [hx x (by simp)]
  case indexAddr t x i => rw [hx x (by simp), hx i (by simp)]
  case index t x i => rw [hx x (by simp), hx i (by simp)]
  case extract x i => rw [hx x (by simp)]
  case call c =>
    obtain ⟨callee, args, ts'⟩ := c
    cases callee with
    | builtin b => simp only; rw [evxs_onlyE fun t ht => hts t (mem_opTmps (by simpa [Op.operands, Call.operands] using ht))]
    | value f =>
      simp only
      rw [hx f (by simp [Call.operands]), evxs_onlyE fun t ht => hts t (mem_opTmps (by simp only [Op.operands, Call.operands, Array.toList_append, List.mem_append]; exact .inr ht))]
    | invoke r m => rfl

theorem rv_hp {v : Value} {H : Heap} {os : List Orc} {vc : List Prop} {r : Res} (h : rv v H os vc = some r) : r.hp = H := (rv_some h).2.1

/-- What does not turn memory. -/
theorem evOp_quiet {P : Program} {o : Op} {e : Env} {H : Heap} {os : List Orc} {r : Res} (he : isEff o = false) (h : evOp P o e H os = some r) : r.hp = H := by
  cases o <;> simp only [evOp] at h <;> simp only [isEff] at he <;> try (cases h; done)
  all_goals try (cases he; done)
  case move x => exact (vo_some h).2
  case assign x => exact (vo_some h).2
  case pick c a b =>
    split at h
    · exact (vp_some h).2
    · cases h
  case build t ps =>
    split at h
    · exact (vo_some h).2
    · cases h
  case load t x =>
    split at h
    · exact (vp_some h).2
    · cases h
  case nilCheck x =>
    split at h
    · exact rv_hp h
    · exact rv_hp h
    · cases h
  case binOp =>
    split at h
    · exact (vp_some h).2
    · cases h
  case unOp =>
    split at h
    · exact (vp_some h).2
    · cases h
  case convert =>
    split at h
    · exact (vp_some h).2
    · cases h
  case makeFunc =>
    split at h
    · exact rv_hp h
    · cases h
  case slice =>
    split at h
    · exact (vp_some h).2
    · cases h
  case fieldAddr =>
    split at h
    · exact (vo_some h).2
    · cases h
  case field =>
    split at h
    · exact (vo_some h).2
    · cases h
  case indexAddr =>
    split at h
    · exact (vp_some h).2
    · cases h
  case index t x i =>
    split at h
    · cases hs : isStrT P t with
      | false => simp [hs] at h
      | true => simp only [hs, cond_true] at h; exact rv_hp h
    · cases h
  case extract =>
    split at h
    · exact (vo_some h).2
    · cases h
  case call c =>
    obtain ⟨callee, args, ts⟩ := c
    cases callee with
    | builtin b =>
      simp only at h
      split at h
      · unfold evBuiltin at h
        split at h
        · exact (vo_some h).2
        · simp at he
        · simp at he
        · exact (vo_some h).2
        · exact (vo_some h).2
        · exact rv_hp h
        · exact rv_hp h
        · generalize sameF _ _ = q at h
          cases q with
          | false => cases h
          | true => exact rv_hp h
        · cases h
      · cases h
    | value f => simp at he
    | invoke r m => simp only at h; cases h

/-- What neither turns nor looks at memory gives the same at another one. -/
theorem evOp_pure {P : Program} {o : Op} {e : Env} {H : Heap} {os : List Orc} {r : Res} (he : isEff o = false) (hr : isRead o = false) (h : evOp P o e H os = some r) (H2 : Heap) : evOp P o e H2 os = some { r with hp := H2 } := by
  have hvo : ∀ {x : Option Value} {os : List Orc}, vo x H os = some r → vo x H2 os = some { r with hp := H2 } := by
    intro x os h
    cases x with
    | none => cases h
    | some v => simp [vo] at h; subst h; rfl
  have hvp : ∀ {x : Option (Value × List Prop)} {os : List Orc}, vp x H os = some r → vp x H2 os = some { r with hp := H2 } := by
    intro x os h
    cases x with
    | none => cases h
    | some v => obtain ⟨v, vc⟩ := v; simp [vp] at h; subst h; rfl
  have hrv : ∀ {v : Value} {os : List Orc} {vc : List Prop}, rv v H os vc = some r → rv v H2 os vc = some { r with hp := H2 } := by
    intro v os vc h
    simp [rv] at h; subst h; rfl
  cases o <;> simp only [evOp] at h ⊢ <;> simp only [isEff, isRead] at he hr <;> try (cases h; done)
  all_goals try (cases he; done)
  all_goals try (cases hr; done)
  case move x => exact hvo h
  case assign x => exact hvo h
  case pick c a b =>
    split at h
    · exact hvp h
    · cases h
  case build t ps =>
    split at h
    · exact hvo h
    · cases h
  case nilCheck x =>
    split at h
    · exact hrv h
    · exact hrv h
    · cases h
  case binOp =>
    split at h
    · exact hvp h
    · cases h
  case unOp =>
    split at h
    · exact hvp h
    · cases h
  case convert =>
    split at h
    · exact hvp h
    · cases h
  case makeFunc =>
    split at h
    · exact hrv h
    · cases h
  case fieldAddr =>
    split at h
    · exact hvo h
    · cases h
  case field =>
    split at h
    · exact hvo h
    · cases h
  case index t x i =>
    split at h
    · cases hs : isStrT P t with
      | false => simp [hs] at h
      | true => simp only [hs, cond_true] at h ⊢; exact hrv h
    · cases h
  case extract =>
    split at h
    · exact hvo h
    · cases h
  case call c =>
    obtain ⟨callee, args, ts⟩ := c
    cases callee with
    | builtin b =>
      simp only at h ⊢
      split at h
      · unfold evBuiltin at h ⊢
        split at h
        · exact hvo h
        · simp at he
        · simp at he
        · exact hvo h
        · exact hvo h
        · exact hrv h
        · exact hrv h
        · generalize sameF _ _ = q at h ⊢
          cases q with
          | false => cases h
          | true => exact hrv h
        · cases h
      · cases h
    | value f => simp at he
    | invoke r m => simp only at h; cases h

/-! ### The lexical run -/

/-- What the lexical run tells of operation 'i'. -/
structure TrOk (P : Program) (all : List Oper) (o : Oper) (t : Tr) : Prop where
  guard : ∃ os0 vg, guardB all o (e := t.e) os0 = some (t.g, t.os, vg) ∧ AllP vg
  run : t.g = true → ∃ r, evOp P o.op t.e t.H t.os = some r ∧ r.v = t.v ∧ r.hp = t.H' ∧ AllP r.vc
  skip : t.g = false → t.v = undef ∧ t.H' = t.H

/-! ### A block that came early -/

theorem flat1_vr {ι ι2 : List Place} {u v : Value} (hu : flat1 u = true) (h : VR ι u v) : VR ι2 u v := by
  cases h with
  | bool => exact .bool _
  | int => exact .int _ _
  | float h hb => exact .float h hb
  | complex h ha g hb => exact .complex h ha g hb
  | string => exact .string _
  | nilFunc => exact .nilFunc
  | nilp => exact .nilp
  | nils => exact .nils
  | _ => simp [flat1] at hu

theorem allP_get {p : Value → Bool} : ∀ {l : List Value} {j : Nat} {u : Value}, allP p l = true → l[j]? = some u → p u = true
  | [], j, u, _, h => by simp at h
  | v :: l, 0, u, h, hj => by
    simp only [allP, Bool.and_eq_true] at h
    simp at hj; subst hj; exact h.1
  | v :: l, j + 1, u, h, hj => by
    simp only [allP, Bool.and_eq_true] at h
    exact allP_get h.2 (by simpa using hj)

theorem flatC_row {c : Cont} {r j : Nat} {u : Value} (hc : flatC c = true) (h : (c.row r)[j]? = some u) : flat1 u = true := by
  have one : ∀ {v : Value}, flat1 v = true → [v][j]? = some u → flat1 u = true := by
    intro v hv hj
    cases j with
    | zero => simp at hj; subst hj; exact hv
    | succ j => simp at hj
  cases c with
  | fl k xs => exact one rfl h
  | it k xs => exact one rfl h
  | cx k xs => exact one rfl h
  | vs l => exact allP_get hc h
  | fn n sz g =>
    simp only [Cont.row, List.getElem?_map] at h
    cases hg : (g r)[j]? with
    | none => rw [hg] at h; cases h
    | some s =>
      rw [hg] at h
      simp only [Option.map_some, Option.some.injEq] at h
      subst h
      cases s <;> rfl

theorem keepsRO_get : ∀ {H H2 : Heap} {j : Nat} {c : Blk}, keepsRO H H2 = true → H2[j]? = some (some c) → c.own = true ∨ ∃ b, H[j]? = some (some b)
  | some b :: H, some c :: H2, 0, c', h, hj => .inr ⟨b, rfl⟩
  | none :: H, some c :: H2, 0, c', h, hj => by
    simp only [keepsRO, Bool.and_eq_true] at h
    simp at hj; subst hj; exact .inl h.1
  | [], some c :: H2, 0, c', h, hj => by
    simp only [keepsRO, Bool.and_eq_true] at h
    simp at hj; subst hj; exact .inl h.1
  | some b :: H, some c :: H2, j + 1, c', h, hj => by
    simp only [keepsRO] at h
    simpa using keepsRO_get h (by simpa using hj)
  | none :: H, some c :: H2, j + 1, c', h, hj => by
    simp only [keepsRO, Bool.and_eq_true] at h
    simpa using keepsRO_get h.2 (by simpa using hj)
  | [], some c :: H2, j + 1, c', h, hj => by
    simp only [keepsRO, Bool.and_eq_true] at h
    have := keepsRO_get (j := j) h.2 (by simpa using hj)
    simpa using this
  | x :: H, none :: H2, 0, c', h, hj => by simp at hj
  | [], none :: H2, 0, c', h, hj => by simp at hj
  | x :: H, none :: H2, j + 1, c', h, hj => by
    have h' : keepsRO H H2 = true := by cases x <;> simpa [keepsRO] using h
    simpa using keepsRO_get h' (by simpa using hj)
  | [], none :: H2, j + 1, c', h, hj => by
    have h' : keepsRO [] H2 = true := by simpa [keepsRO] using h
    have := keepsRO_get (j := j) h' (by simpa using hj)
    simpa using this
  | _, [], j, c', h, hj => by simp at hj

theorem snoc_get {α : Type} {l : List α} {x y : α} {i : Nat} (h : (l ++ [x])[i]? = some y) : (i < l.length ∧ l[i]? = some y) ∨ (i = l.length ∧ y = x) := by
  rcases Nat.lt_trichotomy i l.length with q | q | q
  · rw [List.getElem?_append_left q] at h; exact .inl ⟨q, h⟩
  · subst q; simp at h; exact .inr ⟨rfl, h.symm⟩
  · rw [List.getElem?_eq_none (by simp; omega)] at h; cases h

theorem snoc_up {α : Type} {l : List α} {x y : α} {i : Nat} (e : l[i]? = some y) : (l ++ [x])[i]? = some y := by
  rw [List.getElem?_append_left (List.getElem?_eq_some_iff.1 e).1]; exact e

theorem belowH_get {n : Nat} : ∀ {H : Heap} {i : Nat} {b : Blk}, belowH n H = true → H[i]? = some (some b) → belowC n b.c = true
  | some c :: H, 0, b, h, hi => by
    simp only [belowH, Bool.and_eq_true] at h
    simp at hi; subst hi; exact h.1
  | none :: H, 0, b, h, hi => by simp at hi
  | some c :: H, i + 1, b, h, hi => by
    simp only [belowH, Bool.and_eq_true] at h
    exact belowH_get h.2 (by simpa using hi)
  | none :: H, i + 1, b, h, hi => by
    simp only [belowH] at h
    exact belowH_get h (by simpa using hi)
  | [], i, b, h, hi => by simp at hi

theorem below1_vr {ι : List Place} {p : Place} {u v : Value} (hu : below1 ι.length u = true) (h : VR (ι ++ [p]) u v) : VR ι u v := by
  cases h with
  | bool => exact .bool _
  | int => exact .int _ _
  | float h hb => exact .float h hb
  | complex h ha g hb => exact .complex h ha g hb
  | string => exact .string _
  | nilFunc => exact .nilFunc
  | nilp => exact .nilp
  | nils => exact .nils
  | ptr h1 h2 =>
    have hlt := Nat.le_of_ble_eq_true (show Nat.blt _ _ = true from hu)
    rw [List.getElem?_append_left hlt] at h1
    exact .ptr h1 h2
  | slice h1 h2 h3 h4 h5 =>
    have hlt := Nat.le_of_ble_eq_true (show Nat.blt _ _ = true from hu)
    rw [List.getElem?_append_left hlt] at h1
    exact .slice h1 h2 h3 h4 h5
  | slice0 hx => exact .slice0 hx
  | _ => simp [below1, flat1] at hu

theorem flat_below {n : Nat} {u : Value} (h : flat1 u = true) : below1 n u = true := by
  unfold below1
  split
  · simp [flat1] at h
  · simp [flat1] at h
  · exact h

theorem belowC_row {n : Nat} {c : Cont} {r j : Nat} {u : Value} (hc : belowC n c = true) (h : (c.row r)[j]? = some u) : below1 n u = true := by
  cases c with
  | vs l => exact allP_get hc h
  | _ =>
    have := flatC_row (c := _) rfl h
    exact flat_below this

/-- Without its last block. -/
theorem RH.init {ι : List Place} {H : Heap} {w : World} {p : Place} {b : Option Blk} (h : RH (ι ++ [p]) (H ++ [b]) w) (hr : belowH ι.length H = true) : RH ι H w := by
  have hl : ι.length = H.length := by have := h.len; simpa using this
  refine ⟨hl, fun i q c hq hc => ?_, fun i j q r c d rb hq hc ho hr hd hij => h.sep i j q r c d rb (snoc_up hq) (snoc_up hc) ho (snoc_up hr) (snoc_up hd) hij, fun i q c rb hq hc => h.lt i q c rb (snoc_up hq) (snoc_up hc)⟩
  have hb := h.blk i q c (snoc_up hq) (snoc_up hc)
  refine ⟨hb.sz, hb.len, fun r j hr' hj => ?_, hb.own⟩
  obtain ⟨rb, cs, e, f, v, u, h1, h2, h3, h4, h5, h6⟩ := hb.cells r j hr' hj
  exact ⟨rb, cs, e, f, v, u, h1, h2, h3, h4, below1_vr (belowC_row (belowH_get hr hc) h4) h5, h6⟩

/-- Another operation runs ahead of the last block. -/
theorem RH.behind {ι ι' : List Place} {H H' : Heap} {w w' : World} {p : Place} {b : Blk} (h : RH (ι ++ [p]) (H ++ [some b]) w) (hb : b.own = true) (hf : flatC b.c = true) (hro : keepsRO H H' = true) (e : Ext ι H w ι' H' w') :
    RH (ι' ++ [p]) (H' ++ [some b]) w' := by
  have hl : ι.length = H.length := by have := h.len; simpa using this
  have hl' : ι'.length = H'.length := e.rh.len
  have hpre : ∀ (i : Nat) (q : Place), ι[i]? = some q → ι'[i]? = some q := by
    obtain ⟨l, rfl⟩ := e.pre
    intro i q hq
    rw [List.getElem?_append_left (List.getElem?_eq_some_iff.1 hq).1]; exact hq
  have lastp : (ι ++ [p])[ι.length]? = some p := by simp
  have lastb : (H ++ [some b])[ι.length]? = some (some b) := by rw [hl]; simp
  -- the last block's real block is nobody's
  have hno : ∀ rb, p.blk = some rb → ¬ Own ι H rb := by
    rintro rb hp ⟨i, q, c, hq, hc, ho, hrb⟩
    have hi : i < ι.length := (List.getElem?_eq_some_iff.1 hq).1
    exact h.sep i ι.length q p c b rb (snoc_up hq) (snoc_up hc) ho lastp lastb (by omega) hrb hp
  have hlt : ∀ rb, p.blk = some rb → rb < w.heap.size := fun rb hp => h.lt ι.length p b rb lastp lastb hp
  have hno' : ∀ rb, p.blk = some rb → ¬ Own ι' H' rb := by
    intro rb hp ho
    rcases e.fresh rb ho with h' | h'
    · exact hno rb hp h'
    · have := hlt rb hp; omega
  have hblk : BlkOk (ι' ++ [p]) w' p b := by
    have h0 := h.blk ι.length p b lastp lastb
    have hsame : ∀ rb, p.blk = some rb → w'.heap[rb]? = w.heap[rb]? := fun rb hp => e.fr.block rb (hlt rb hp) (hno rb hp)
    refine ⟨h0.sz, h0.len, fun r j hr hj => ?_, fun ho rb hp => ?_⟩
    · obtain ⟨rb, cs, e1, f, v, u, h1, h2, h3, h4, h5, h6⟩ := h0.cells r j hr hj
      exact ⟨rb, cs, e1, f, v, u, h1, by rw [hsame rb h1]; exact h2, h3, h4, flat1_vr (flatC_row hf h4) h5, h6⟩
    · have := h0.own ho rb hp
      rw [hsame rb hp]; exact this
  refine ⟨by simp [hl'], fun i q c hq hc => ?_, fun i j q r c d rb hq hc ho hr hd hij hqb hrb => ?_, fun i q c rb hq hc hp => ?_⟩
  · rcases snoc_get hq with ⟨hi, hq⟩ | ⟨hi, rfl⟩
    · rcases snoc_get hc with ⟨_, hc⟩ | ⟨hi2, _⟩
      · exact (e.rh.blk i q c hq hc).of_heap (fun k x hx => snoc_up hx) (fun _ _ _ => rfl)
      · omega
    · rcases snoc_get hc with ⟨hi2, _⟩ | ⟨_, hc⟩
      · omega
      · simp only [Option.some.injEq] at hc; subst hc; exact hblk
  · rcases snoc_get hq with ⟨hi, hq1⟩ | ⟨hi, eq1⟩
    · rcases snoc_get hc with ⟨_, hc1⟩ | ⟨hi2, _⟩
      · rcases snoc_get hr with ⟨hj, hr1⟩ | ⟨hj, er⟩
        · rcases snoc_get hd with ⟨_, hd1⟩ | ⟨hj2, _⟩
          · exact e.rh.sep i j q r c d rb hq1 hc1 ho hr1 hd1 hij hqb hrb
          · omega
        · rw [er] at hrb
          exact hno' rb hrb ⟨i, q, c, hq1, hc1, ho, hqb⟩
      · omega
    · rw [eq1] at hqb
      rcases snoc_get hr with ⟨hj, hr1⟩ | ⟨hj, _⟩
      · rcases snoc_get hd with ⟨_, hd1⟩ | ⟨hj2, _⟩
        · rcases keepsRO_get hro hd1 with ho' | ⟨c0, hc0⟩
          · exact hno' rb hqb ⟨j, r, d, hr1, hd1, ho', hrb⟩
          · have hj3 : j < ι.length := by rw [hl]; exact (List.getElem?_eq_some_iff.1 hc0).1
            obtain ⟨r0, hr0⟩ : ∃ r0, ι[j]? = some r0 := ⟨_, List.getElem?_eq_getElem hj3⟩
            have := hpre j r0 hr0
            rw [hr1] at this; cases this
            exact h.sep ι.length j p r b c0 rb lastp lastb hb (snoc_up hr0) (snoc_up hc0) (by omega) hqb hrb
        · omega
      · omega
  · rcases snoc_get hq with ⟨hi, hq⟩ | ⟨hi, rfl⟩
    · rcases snoc_get hc with ⟨_, hc⟩ | ⟨hi2, _⟩
      · exact e.rh.lt i q c rb hq hc hp
      · omega
    · exact Nat.lt_of_lt_of_le (hlt rb hp) e.fr.size

theorem mv_vr {ι1 ι2 : List Place} {p : Place} {u v : Value} (hu : isNew u = true) (h : VR (ι1 ++ [p]) (mv ι1.length u) v) : VR (ι2 ++ [p]) (mv ι2.length u) v := by
  unfold isNew at hu
  split at hu
  · simp only [mv] at h ⊢
    cases h with
    | slice h1 h2 h3 h4 h5 =>
      simp at h1; subst h1
      exact .slice (by simp) h2 h3 h4 h5
    | slice0 hx => exact .slice0 hx
  · simp only [mv] at h ⊢
    cases h with
    | ptr h1 h2 =>
      simp at h1; subst h1
      exact .ptr (by simp) h2
  · cases hu

theorem own_up {ι : List Place} {H : Heap} {p : Place} {b : Option Blk} {rb : Nat} (h : Own ι H rb) : Own (ι ++ [p]) (H ++ [b]) rb := by
  obtain ⟨i, q, c, hq, hc, ho, hr⟩ := h
  exact ⟨i, q, c, snoc_up hq, snoc_up hc, ho, hr⟩

theorem Ext.behind {ι0 ι ι' : List Place} {H0 H H' : Heap} {w0 w w' : World} {p : Place} {b : Blk} (hpre : ∃ l, ι = ι0 ++ l) (hl0 : ι.length = H.length) (hx : Ext ι0 H0 w0 (ι ++ [p]) (H ++ [some b]) w) (hb : b.own = true) (hf : flatC b.c = true) (hro : keepsRO H H' = true)
    (e : Ext ι H w ι' H' w') : Ext ι0 H0 w0 (ι' ++ [p]) (H' ++ [some b]) w' := by
  have hrh := hx.rh.behind hb hf hro e
  have hup : ∀ rb, Own ι H rb → Own ι0 H0 rb ∨ w0.heap.size ≤ rb := fun rb ho => hx.fresh rb (own_up ho)
  refine ⟨?_, hrh, hx.fr.trans e.fr hup, fun rb ho => ?_⟩
  · obtain ⟨l, rfl⟩ := hpre
    obtain ⟨m, rfl⟩ := e.pre
    exact ⟨l ++ m ++ [p], by simp⟩
  · obtain ⟨i, q, c, hq, hc, ho, hr⟩ := ho
    have hl' : ι'.length = H'.length := e.rh.len
    rcases snoc_get hq with ⟨hi, hq1⟩ | ⟨hi, eq1⟩
    · rcases snoc_get hc with ⟨_, hc1⟩ | ⟨hi2, _⟩
      · rcases e.fresh rb ⟨i, q, c, hq1, hc1, ho, hr⟩ with h' | h'
        · exact hup rb h'
        · exact .inr (Nat.le_trans hx.fr.size h')
      · omega
    · subst eq1
      exact hx.fresh rb ⟨ι.length, q, b, by simp, by rw [hl0]; simp, hb, hr⟩

theorem cnt_lt {p q : Nat → Bool} : ∀ {E : List Nat}, (∀ e ∈ E, p e = true → q e = true) → (∃ e ∈ E, q e = true ∧ p e = false) → cnt p E < cnt q E
  | [], _, h => by obtain ⟨e, he, _⟩ := h; cases he
  | x :: E, h, h2 => by
    have hle := cnt_le (p := p) (q := q) (E := E) fun e he => h e (List.mem_cons_of_mem _ he)
    obtain ⟨e, he, h3, h4⟩ := h2
    simp only [cnt]
    rcases List.mem_cons.1 he with rfl | he
    · rw [h3, h4]; simp; omega
    · have ih := cnt_lt (p := p) (q := q) (E := E) (fun e he => h e (List.mem_cons_of_mem _ he)) ⟨e, he, h3, h4⟩
      cases hp : p x with
      | true => rw [h x (List.mem_cons_self ..) hp]; simpa using ih
      | false => cases hq : q x <;> simp <;> omega

end Go.Sim
end
