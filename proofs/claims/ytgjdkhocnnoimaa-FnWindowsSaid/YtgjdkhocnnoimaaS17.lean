/- A pure account of the values, floats and memory of a run, and how it stands to the model's (part 17: a state taken as another). Conditions: none. -/
import Derived.Test.YtgjdkhocnnoimaaS16
namespace Go.Sim
open Go

/-! ### A state taken as another

'm' names for each block of the state looked for the block of the state that is there; 'none': a block of no rows, of nobody's. -/

def isOf (m : List (Option Nat)) (b' b : Nat) : Bool :=
  match nth m b' with
  | some (some c) => Nat.beq c b
  | _ => false

def fitV0 (m : List (Option Nat)) : Value → Value → Option (List Prop)
  | .pointer (some ⟨b, i, some j⟩), .pointer (some ⟨b', i', some j'⟩) => bif isOf m b' b then some [i = i', j = j'] else none
  | .slice (some ⟨b, i, none⟩) l c, .slice (some ⟨b', i', none⟩) l' c' => bif isOf m b' b && ((Nat.beq c 0 || !Nat.beq c' 0) && (Nat.beq c 2 || !Nat.beq c' 2)) then some [i = i', l = l'] else none
  | .slice none 0 0, .slice none 0 0 => some []
  | .slice none 0 0, .slice (some _) l' c' => bif Nat.beq c' 2 then none else some [0 = l']
  | .bool a, .bool b => some [a = b]
  | .int k n, .int k' n' => bif sameI k k' then some [n = n'] else none
  | .float k x, .float k' x' => bif sameF k k' then some [x = x'] else none
  | .complex k x y, .complex k' x' y' => bif sameF k k' then some [x = x', y = y'] else none
  | .string s, .string s' => some [s = s']
  | .pointer none, .pointer none => some []
  | .nilFunc, .nilFunc => some []
  | .tuple ⟨[]⟩, .tuple ⟨[]⟩ => some []
  | _, _ => none

def fitL (f : Value → Value → Option (List Prop)) : List Value → List Value → Option (List Prop)
  | [], [] => some []
  | v :: l, v' :: l' => match f v v', fitL f l l' with
    | some a, some b => some (a ++ b)
    | _, _ => none
  | _, _ => none

def fitV1 (m : List (Option Nat)) : Value → Value → Option (List Prop)
  | .agg ⟨l⟩, .agg ⟨l'⟩ => fitL (fitV0 m) l l'
  | .func fn ⟨f⟩ ⟨c⟩, .func fn' ⟨f'⟩ ⟨c'⟩ => match fitL (fitV0 m) f f', fitL (fitV0 m) c c' with
    | some a, some b => some ((fn = fn') :: (a ++ b))
    | _, _ => none
  | v, v' => fitV0 m v v'

def fitV (m : List (Option Nat)) : Value → Value → Option (List Prop)
  | .tuple ⟨l⟩, .tuple ⟨l'⟩ => fitL (fitV1 m) l l'
  | v, v' => fitV1 m v v'

def fitC (m : List (Option Nat)) : Cont → Cont → Option (List Prop)
  | .fl k xs, .fl k' xs' => bif sameF k k' then some [xs = xs'] else none
  | .it k xs, .it k' xs' => bif sameI k k' then some [xs = xs'] else none
  | .cx k xs, .cx k' xs' => bif sameF k k' then some [xs = xs'] else none
  | .vs l, .vs l' => fitL (fitV1 m) l l'
  | .fn n sz g, .fn n' sz' g' => some [n = n', sz = sz', ∀ i, i < n → g i = g' i]
  | .nst n sz g _, .nst n' sz' g' [] => some [n = n', sz = sz', ∀ i, i < n → g i = g' i]
  | _, _ => none

def noRows : Cont → Option (List Prop)
  | .fl _ xs => some [xs = []]
  | .it _ xs => some [xs = []]
  | .cx _ xs => some [xs = []]
  | .fn n _ _ => some [n = 0]
  | .nst n _ _ [] => some [n = 0]
  | .nst _ _ _ _ => none
  | .vs _ => none

def fitH (m : List (Option Nat)) (H : Heap) : List (Option Nat) → Heap → Option (List Prop)
  | [], [] => some []
  | _ :: ms, none :: l => fitH m H ms l
  | none :: ms, some b :: l => match noRows b.c, fitH m H ms l with
    | some a, some r => some (a ++ r)
    | _, _ => none
  | some c :: ms, some b :: l => match blkAt H c with
    | some blk => bif blk.own || !b.own then
        match fitC m blk.c b.c, fitH m H ms l with
        | some a, some r => some (a ++ r)
        | _, _ => none
      else none
    | none => none
  | _, _ => none

def fitE (m : List (Option Nat)) (e : Env) : Env → Option (List Prop)
  | [] => some []
  | (t, v') :: l => match look t e with
    | some v => match fitV m v v', fitE m e l with
      | some a, some r => some (a ++ r)
      | _, _ => none
    | none => none

/-- The blocks of 'm' are named once each. -/
def onceAll : List (Option Nat) → Bool
  | [] => true
  | none :: l => onceAll l
  | some b :: l => !memO b l && onceAll l
where
  memO (b : Nat) : List (Option Nat) → Bool
    | [] => false
    | none :: l => memO b l
    | some c :: l => Nat.beq b c || memO b l

/-- The first 'n' names stay. -/
def isPre : Nat → Nat → List (Option Nat) → Bool
  | 0, _, _ => true
  | n + 1, k, some x :: l => Nat.beq x k && isPre n (k + 1) l
  | _ + 1, _, _ => false

def fit (n0 : Nat) (m : List (Option Nat)) (s s' : St) : Option (List Prop) :=
  bif onceAll m && isPre n0 0 m then
    match fitE m s.tm s'.tm, fitH m s.hp m s'.hp with
    | some a, some b => some (a ++ b)
    | _, _ => none
  else none

/-! ### That it is one -/


theorem isOf_spec {m : List (Option Nat)} {b' b : Nat} (h : isOf m b' b = true) : m[b']? = some (some b) := by
  unfold isOf at h
  rw [nth_eq] at h
  split at h
  · rename_i c hc
    rw [hc, Nat.eq_of_beq_eq_true h]
  · cases h

/-- The places go with the names. -/
def Mapped (ι ι2 : List Place) (m : List (Option Nat)) : Prop :=
  ∀ (k b : Nat) (p : Place), m[k]? = some (some b) → ι[b]? = some p → ι2[k]? = some p

def FitV (f : List (Option Nat) → Value → Value → Option (List Prop)) : Prop :=
  ∀ (ι ι2 : List Place) (m : List (Option Nat)) (v u v' : Value) (vc : List Prop), Mapped ι ι2 m → f m v u = some vc → AllP vc → VR ι v v' → VR ι2 u v'

theorem allP_app {a b : List Prop} (h : AllP (a ++ b)) : AllP a ∧ AllP b := allP_append _ _ h

theorem fitV0_sound : FitV fitV0 := by
  intro ι ι2 m v u v' vc hm h hv hr
  unfold fitV0 at h
  split at h
  · rename_i b i j b' i' j'
    cases hb : isOf m b' b with
    | false => simp [hb] at h
    | true =>
      simp only [hb, cond_true, Option.some.injEq] at h; subst h
      obtain ⟨rfl, rfl, _⟩ := hv
      cases hr with | ptr hp hrb => exact .ptr (hm _ _ _ (isOf_spec hb) hp) hrb
  · rename_i b i l c b' i' l' c'
    cases hb : isOf m b' b with
    | false => simp [hb] at h
    | true =>
      simp only [hb, Bool.true_and] at h
      cases hc : ((Nat.beq c 0 || !Nat.beq c' 0) && (Nat.beq c 2 || !Nat.beq c' 2)) with
      | false => simp [hc] at h
      | true =>
        simp only [hc, cond_true, Option.some.injEq] at h; subst h
        obtain ⟨rfl, rfl, _⟩ := hv
        cases hr with
        | slice hp hrb hl hcap h0 =>
          refine .slice (hm _ _ _ (isOf_spec hb) hp) hrb hl hcap fun hc' => h0 ?_
          subst hc'
          simp only [Bool.and_eq_true] at hc
          simpa using hc.1
        | slice0 hx =>
          refine .slice0 fun h2 => hx ?_
          simp only [Bool.and_eq_true] at hc
          have := hc.2
          rw [h2] at this
          simpa using this
  · cases hr with | nils => exact .nils
  · rename_i c'
    cases hc : Nat.beq c' 2 with
    | true => simp [hc] at h
    | false =>
      simp only [hc, cond_false, Option.some.injEq] at h; subst h
      obtain ⟨rfl, _⟩ := hv
      cases hr with | nils => exact .slice0 fun h2 => (by rw [hc] at h2; cases h2)
  · simp only [Option.some.injEq] at h; subst h
    obtain ⟨rfl, _⟩ := hv
    cases hr; exact .bool _
  · rename_i k n k' n'
    cases hk : sameI k k' with
    | false => simp [hk] at h
    | true =>
      simp only [hk, cond_true, Option.some.injEq] at h; subst h
      obtain ⟨rfl, _⟩ := hv
      cases sameI_eq hk
      cases hr; exact .int _ _
  · rename_i k n k' n'
    cases hk : sameF k k' with
    | false => simp [hk] at h
    | true =>
      simp only [hk, cond_true, Option.some.injEq] at h; subst h
      obtain ⟨rfl, _⟩ := hv
      cases sameF_eq hk
      cases hr with | float a b => exact .float a b
  · rename_i k _ _ k' _ _
    cases hk : sameF k k' with
    | false => simp [hk] at h
    | true =>
      simp only [hk, cond_true, Option.some.injEq] at h; subst h
      obtain ⟨rfl, rfl, _⟩ := hv
      cases sameF_eq hk
      cases hr with | complex a b c d => exact .complex a b c d
  · simp only [Option.some.injEq] at h; subst h
    obtain ⟨rfl, _⟩ := hv
    cases hr; exact .string _
  · cases hr; exact .nilp
  · cases hr; exact .nilFunc
  · cases hr with | tuple h => cases h; exact .tuple .nil
  · cases h

theorem fitL_sound {f : List (Option Nat) → Value → Value → Option (List Prop)} (hf : FitV f) {ι ι2 : List Place} {m : List (Option Nat)} (hm : Mapped ι ι2 m) :
    ∀ {l u l' : List Value} {vc : List Prop}, fitL (f m) l u = some vc → AllP vc → VRs ι l l' → VRs ι2 u l'
  | [], [], l', vc, h, hv, hr => by cases hr; exact .nil
  | [], _ :: _, l', vc, h, hv, hr => by simp [fitL] at h
  | _ :: _, [], l', vc, h, hv, hr => by simp [fitL] at h
  | v :: l, u :: us, l', vc, h, hv, hr => by
    simp only [fitL] at h
    split at h
    · rename_i a b ha hb
      simp only [Option.some.injEq] at h; subst h
      obtain ⟨h1, h2⟩ := allP_app hv
      cases hr with | cons g gs => exact .cons (hf _ _ _ _ _ _ _ hm ha h1 g) (fitL_sound hf hm hb h2 gs)
    · cases h

theorem fitL_length {f : Value → Value → Option (List Prop)} : ∀ {l u : List Value} {vc : List Prop}, fitL f l u = some vc → l.length = u.length
  | [], [], vc, h => rfl
  | [], _ :: _, vc, h => by simp [fitL] at h
  | _ :: _, [], vc, h => by simp [fitL] at h
  | v :: l, u :: us, vc, h => by
    simp only [fitL] at h
    split at h
    · rename_i a b ha hb
      simp [fitL_length hb]
    · cases h

theorem fitL_get {f : Value → Value → Option (List Prop)} : ∀ {l u : List Value} {vc : List Prop}, fitL f l u = some vc → AllP vc → ∀ (j : Nat) (x : Value), l[j]? = some x → ∃ y vc', f x y = some vc' ∧ AllP vc' ∧ u[j]? = some y
  | [], [], vc, h, hv, j, x, hx => by simp at hx
  | [], _ :: _, vc, h, hv, j, x, hx => by simp [fitL] at h
  | _ :: _, [], vc, h, hv, j, x, hx => by simp [fitL] at h
  | v :: l, u :: us, vc, h, hv, j, x, hx => by
    simp only [fitL] at h
    split at h
    · rename_i a b ha hb
      simp only [Option.some.injEq] at h; subst h
      obtain ⟨h1, h2⟩ := allP_app hv
      cases j with
      | zero => simp at hx; subst hx; exact ⟨u, a, ha, h1, rfl⟩
      | succ j => simpa using fitL_get hb h2 j x (by simpa using hx)
    · cases h

theorem fitV1_sound : FitV fitV1 := by
  intro ι ι2 m v u v' vc hm h hv hr
  unfold fitV1 at h
  split at h
  · cases hr with | agg hr => exact .agg (fitL_sound fitV0_sound hm h hv hr)
  · split at h
    · rename_i a b ha hb
      simp only [Option.some.injEq] at h; subst h
      obtain ⟨rfl, hv⟩ := hv
      obtain ⟨h1, h2⟩ := allP_app hv
      cases hr with | func _ hf hc => exact .func _ (fitL_sound fitV0_sound hm ha h1 hf) (fitL_sound fitV0_sound hm hb h2 hc)
    · cases h
  · exact fitV0_sound ι ι2 m v u v' vc hm h hv hr

theorem fitV_sound : FitV fitV := by
  intro ι ι2 m v u v' vc hm h hv hr
  unfold fitV at h
  split at h
  · cases hr with | tuple hr => exact .tuple (fitL_sound fitV1_sound hm h hv hr)
  · exact fitV1_sound ι ι2 m v u v' vc hm h hv hr

theorem fitC_vias {m : List (Option Nat)} {c c' : Cont} {vc : List Prop} (h : fitC m c c' = some vc) : c'.vias = [] := by
  unfold fitC at h
  split at h <;> first | rfl | cases h

theorem noRows_vias {c : Cont} {vc : List Prop} (h : noRows c = some vc) : c.vias = [] := by
  unfold noRows at h
  split at h <;> first | rfl | cases h

/-- A content with slices comes from one with the same. -/
theorem fitC_nst {m : List (Option Nat)} {c : Cont} {n sz : Nat} {g : Nat → List HC} {o : List (Nat × Nat)} {vc : List Prop} (h : fitC m c (.nst n sz g o) = some vc) (hv : AllP vc) : ∃ g0 o0, c = .nst n sz g0 o0 ∧ ∀ i, i < n → g0 i = g i := by
  unfold fitC at h
  split at h <;> first | (rename_i heq; cases heq; done) | skip
  all_goals first | (cases h; done) | skip
  all_goals
    rename_i heq
    cases heq
    simp only [Option.some.injEq] at h; subst h
    obtain ⟨rfl, rfl, hg, _⟩ := hv
    exact ⟨_, _, rfl, hg⟩

/-- A block taken as another. -/
theorem BlkOk.fit {ι ι2 : List Place} {m : List (Option Nat)} (hm : Mapped ι ι2 m) {w : World} {p : Place} {b b' : Blk} {vc : List Prop} (h : BlkOk ι w p b) (hc : fitC m b.c b'.c = some vc) (hv : AllP vc)
    (ho : b'.own = true → b.own = true) : BlkOk ι2 w p b' := by
  have key : b'.c.rows = b.c.rows ∧ b'.c.sz = b.c.sz ∧ ∀ i, i < b.c.rows → (b'.c.row i).length = (b.c.row i).length ∧
      ∀ (j : Nat) (u v : Value), (b.c.row i)[j]? = some u → VR ι u v → ∃ u', (b'.c.row i)[j]? = some u' ∧ VR ι2 u' v := by
    obtain ⟨o, c⟩ := b
    obtain ⟨o', c'⟩ := b'
    have same : ∀ {c : Cont}, (∀ i j u, (c.row i)[j]? = some u → Free u) → c.rows = c.rows ∧ c.sz = c.sz ∧ ∀ i, i < c.rows → (c.row i).length = (c.row i).length ∧
      ∀ (j : Nat) (u v : Value), (c.row i)[j]? = some u → VR ι u v → ∃ u', (c.row i)[j]? = some u' ∧ VR ι2 u' v :=
      fun hf => ⟨rfl, rfl, fun i _ => ⟨rfl, fun j u v hu hv => ⟨u, hu, hv.free (hf i j u hu)⟩⟩⟩
    simp only at hc ⊢
    unfold fitC at hc
    split at hc
    · rename_i k xs k' xs'
      cases hk : sameF k k' with
      | false => simp [hk] at hc
      | true =>
        simp only [hk, cond_true, Option.some.injEq] at hc; subst hc
        obtain ⟨rfl, _⟩ := hv
        cases sameF_eq hk
        refine same fun i j u hu => ?_
        cases j with
        | zero => simp [Cont.row] at hu; subst hu; exact .inr (.inr (.inl ⟨_, _, rfl⟩))
        | succ j => simp [Cont.row] at hu
    · rename_i k xs k' xs'
      cases hk : sameI k k' with
      | false => simp [hk] at hc
      | true =>
        simp only [hk, cond_true, Option.some.injEq] at hc; subst hc
        obtain ⟨rfl, _⟩ := hv
        cases sameI_eq hk
        refine same fun i j u hu => ?_
        cases j with
        | zero => simp [Cont.row] at hu; subst hu; exact .inr (.inl ⟨_, _, rfl⟩)
        | succ j => simp [Cont.row] at hu
    · rename_i k xs k' xs'
      cases hk : sameF k k' with
      | false => simp [hk] at hc
      | true =>
        simp only [hk, cond_true, Option.some.injEq] at hc; subst hc
        obtain ⟨rfl, _⟩ := hv
        cases sameF_eq hk
        refine same fun i j u hu => ?_
        cases j with
        | zero => simp [Cont.row] at hu; subst hu; exact .inr (.inr (.inr (.inl ⟨_, _, _, rfl⟩)))
        | succ j => simp [Cont.row] at hu
    · rename_i l l'
      refine ⟨rfl, by simp [Cont.sz, fitL_length hc], fun i _ => ⟨by simp [Cont.row, fitL_length hc], fun j u v hu hv' => ?_⟩⟩
      obtain ⟨y, vc', h1, h2, h3⟩ := fitL_get hc hv j u hu
      exact ⟨y, h3, fitV1_sound _ _ _ _ _ _ _ hm h1 h2 hv'⟩
    · rename_i n sz g n' sz' g'
      simp only [Option.some.injEq] at hc; subst hc
      obtain ⟨rfl, rfl, hg, _⟩ := hv
      refine ⟨rfl, rfl, fun i hi => ?_⟩
      have hgi := hg i hi
      refine ⟨by simp [Cont.row, hgi], fun j u v hu hv => ⟨u, by simpa [Cont.row, hgi] using hu, hv.free ?_⟩⟩
      simp only [Cont.row, List.getElem?_map, Option.map_eq_some_iff] at hu
      obtain ⟨s, _, rfl⟩ := hu
      exact free_sc s
    · rename_i n sz g _ n' sz' g'
      simp only [Option.some.injEq] at hc; subst hc
      obtain ⟨rfl, rfl, hg, _⟩ := hv
      refine ⟨rfl, rfl, fun i hi => ?_⟩
      have hgi := hg i hi
      refine ⟨by simp [Cont.row, hgi], fun j u v hu hv => ⟨u, by simpa [Cont.row, hgi] using hu, hv.free ?_⟩⟩
      simp only [Cont.row, List.getElem?_map, Option.map_eq_some_iff] at hu
      obtain ⟨s, _, rfl⟩ := hu
      exact free_hc s
    · cases hc
  obtain ⟨c1, c2, c3⟩ := key
  refine ⟨by rw [h.sz]; exact c2.symm, fun i hi => ?_, fun i j hi hj => ?_, fun ho' rb hrb => ?_, fun i k hk => by rw [fitC_vias hc] at hk; cases hk⟩
  · have hi' : i < b.c.rows := by rw [← c1]; exact hi
    rw [(c3 i hi').1, c2]; exact h.len i hi'
  · have hi' : i < b.c.rows := by rw [← c1]; exact hi
    obtain ⟨rb, cs, e, f, v, u, h1, h2, h3, h4, h5, h6⟩ := h.cells i j hi' (by rw [← c2]; exact hj)
    obtain ⟨u', g1, g2⟩ := (c3 i hi').2 j u v h4 h5
    exact ⟨rb, cs, e, f, v, u', h1, h2, h3, g1, g2, h6⟩
  · obtain ⟨h1, h2, h3⟩ := h.own (ho ho') rb hrb
    exact ⟨h1, by rw [c1]; exact h2, h3⟩

theorem onceAll_memO {b : Nat} : ∀ {l : List (Option Nat)}, onceAll.memO b l = false → some b ∉ l
  | [], _ => by simp
  | none :: l, h => by
    simp only [onceAll.memO] at h
    simpa using onceAll_memO h
  | some c :: l, h => by
    simp only [onceAll.memO, Bool.or_eq_false_iff] at h
    simp only [List.mem_cons, Option.some.injEq, not_or]
    exact ⟨fun e => by subst e; simp at h, onceAll_memO h.2⟩

theorem onceAll_spec : ∀ {m : List (Option Nat)}, onceAll m = true → ∀ (i j : Nat) (b c : Nat), m[i]? = some (some b) → m[j]? = some (some c) → i ≠ j → b ≠ c
  | [], _, i, j, b, c, hi, _, _ => by simp at hi
  | none :: l, h, i, j, b, c, hi, hj, hij => by
    simp only [onceAll] at h
    cases i with
    | zero => simp at hi
    | succ i => cases j with
      | zero => simp at hj
      | succ j => exact onceAll_spec h i j b c (by simpa using hi) (by simpa using hj) (by omega)
  | some x :: l, h, i, j, b, c, hi, hj, hij => by
    simp only [onceAll, Bool.and_eq_true, Bool.not_eq_true'] at h
    have hn := onceAll_memO h.1
    cases i with
    | zero =>
      simp at hi; subst hi
      cases j with
      | zero => omega
      | succ j =>
        intro e; subst e
        exact hn (List.mem_of_getElem? (by simpa using hj))
    | succ i => cases j with
      | zero =>
        simp at hj; subst hj
        intro e; subst e
        exact hn (List.mem_of_getElem? (by simpa using hi))
      | succ j => exact onceAll_spec h.2 i j b c (by simpa using hi) (by simpa using hj) (by omega)

theorem isPre_spec : ∀ {n k : Nat} {m : List (Option Nat)}, isPre n k m = true → n ≤ m.length ∧ ∀ i, i < n → m[i]? = some (some (k + i))
  | 0, k, m, _ => ⟨Nat.zero_le _, fun i hi => by omega⟩
  | n + 1, k, [], h => by simp [isPre] at h
  | n + 1, k, none :: l, h => by simp [isPre] at h
  | n + 1, k, some x :: l, h => by
    simp only [isPre, Bool.and_eq_true] at h
    obtain ⟨h1, h2⟩ := isPre_spec h.2
    refine ⟨by simp; omega, fun i hi => ?_⟩
    cases i with
    | zero => simp [Nat.eq_of_beq_eq_true h.1]
    | succ i =>
      have := h2 i (by omega)
      simp only [List.getElem?_cons_succ, this, Option.some.injEq]; omega

theorem fitH_spec {m : List (Option Nat)} {H : Heap} : ∀ {ms : List (Option Nat)} {h : Heap} {vc : List Prop}, fitH m H ms h = some vc → AllP vc →
    ms.length = h.length ∧ ∀ (k : Nat) (b : Blk), h[k]? = some (some b) →
      (ms[k]? = some none ∧ b.c.rows = 0 ∧ b.c.vias = []) ∨ ∃ c blk vc', ms[k]? = some (some c) ∧ H[c]? = some (some blk) ∧ (b.own = true → blk.own = true) ∧ fitC m blk.c b.c = some vc' ∧ AllP vc'
  | [], [], vc, h, hv => ⟨rfl, fun k b hk => by simp at hk⟩
  | [], none :: _, vc, h, hv => by simp [fitH] at h
  | [], some _ :: _, vc, h, hv => by simp [fitH] at h
  | none :: _, [], vc, h, hv => by simp [fitH] at h
  | some _ :: _, [], vc, h, hv => by simp [fitH] at h
  | none :: ms, none :: l, vc, h, hv => by
    simp only [fitH] at h
    obtain ⟨h1, h2⟩ := fitH_spec h hv
    refine ⟨by simp [h1], fun k b hk => ?_⟩
    cases k with
    | zero => simp at hk
    | succ k => simpa using h2 k b (by simpa using hk)
  | some c :: ms, none :: l, vc, h, hv => by
    simp only [fitH] at h
    obtain ⟨h1, h2⟩ := fitH_spec h hv
    refine ⟨by simp [h1], fun k b hk => ?_⟩
    cases k with
    | zero => simp at hk
    | succ k => simpa using h2 k b (by simpa using hk)
  | none :: ms, some b0 :: l, vc, h, hv => by
    simp only [fitH] at h
    split at h
    · rename_i a r ha hr
      simp only [Option.some.injEq] at h; subst h
      obtain ⟨v1, v2⟩ := allP_app hv
      obtain ⟨h1, h2⟩ := fitH_spec hr v2
      refine ⟨by simp [h1], fun k b hk => ?_⟩
      cases k with
      | zero =>
        simp at hk; subst hk
        left
        refine ⟨rfl, ?_, noRows_vias ha⟩
        unfold noRows at ha
        split at ha
        · cases ha; rename_i k xs e; rw [e]; obtain ⟨rfl, _⟩ := v1; rfl
        · cases ha; rename_i k xs e; rw [e]; obtain ⟨rfl, _⟩ := v1; rfl
        · cases ha; rename_i k xs e; rw [e]; obtain ⟨rfl, _⟩ := v1; rfl
        · cases ha; rename_i n sz g e; rw [e]; obtain ⟨rfl, _⟩ := v1; rfl
        · cases ha; rename_i n sz g e; rw [e]; obtain ⟨rfl, _⟩ := v1; rfl
        · cases ha
        · cases ha
      | succ k => simpa using h2 k b (by simpa using hk)
    · cases h
  | some c :: ms, some b0 :: l, vc, h, hv => by
    simp only [fitH] at h
    split at h
    · rename_i blk hblk
      cases ho : (blk.own || !b0.own) with
      | false => simp [ho] at h
      | true =>
        simp only [ho, cond_true] at h
        split at h
        · rename_i a r ha hr
          simp only [Option.some.injEq] at h; subst h
          obtain ⟨v1, v2⟩ := allP_app hv
          obtain ⟨h1, h2⟩ := fitH_spec hr v2
          refine ⟨by simp [h1], fun k b hk => ?_⟩
          cases k with
          | zero =>
            simp at hk; subst hk
            right
            refine ⟨c, blk, a, rfl, ?_, fun hb => by rw [hb] at ho; simpa using ho, ha, v1⟩
            unfold blkAt at hblk
            rw [nth_eq] at hblk
            split at hblk
            · rename_i x hx; cases hblk; exact hx
            · cases hblk
          | succ k => simpa using h2 k b (by simpa using hk)
        · cases h
    · cases h

theorem fitE_spec {m : List (Option Nat)} {e : Env} : ∀ {l : Env} {vc : List Prop}, fitE m e l = some vc → AllP vc → ∀ (t : Nat) (v' : Value), look t l = some v' → ∃ v vc', look t e = some v ∧ fitV m v v' = some vc' ∧ AllP vc'
  | [], vc, h, hv, t, v', ht => by simp [look] at ht
  | (u, v0) :: l, vc, h, hv, t, v', ht => by
    simp only [fitE] at h
    split at h
    · rename_i v hl
      split at h
      · rename_i a r ha hr
        simp only [Option.some.injEq] at h; subst h
        obtain ⟨v1, v2⟩ := allP_app hv
        simp only [look] at ht
        cases hb : Nat.beq t u with
        | true =>
          simp only [hb, cond_true, Option.some.injEq] at ht; subst ht
          have := Nat.eq_of_beq_eq_true hb; subst this
          exact ⟨v, a, hl, ha, v1⟩
        | false =>
          simp only [hb, cond_false] at ht
          exact fitE_spec hr v2 t v' ht
      · cases h
    · cases h

/-- The places under the names 'm'. -/
def placesFit (ι : List Place) : List (Option Nat) → Heap → List Place
  | some b :: ms, _ :: l => (ι[b]?).getD ⟨none, 0, 0, 0⟩ :: placesFit ι ms l
  | none :: ms, x :: l => ⟨none, 0, (match x with | some b => b.c.sz | none => 0), 0⟩ :: placesFit ι ms l
  | _, _ => []

theorem placesFit_spec (ι : List Place) : ∀ (ms : List (Option Nat)) (h : Heap), ms.length = h.length → (placesFit ι ms h).length = h.length ∧
    (∀ (k b : Nat), ms[k]? = some (some b) → (placesFit ι ms h)[k]? = some ((ι[b]?).getD ⟨none, 0, 0, 0⟩)) ∧
    (∀ (k : Nat) (b : Blk), ms[k]? = some none → h[k]? = some (some b) → (placesFit ι ms h)[k]? = some ⟨none, 0, b.c.sz, 0⟩)
  | [], [], _ => ⟨rfl, fun k b hk => by simp at hk, fun k b hk => by simp at hk⟩
  | [], _ :: _, h => by simp at h
  | _ :: _, [], h => by simp at h
  | some b0 :: ms, x :: l, h => by
    obtain ⟨h1, h2, h3⟩ := placesFit_spec ι ms l (by simpa using h)
    refine ⟨by simp [placesFit, h1], fun k b hk => ?_, fun k b hk hb => ?_⟩
    · cases k with
      | zero => simp at hk; subst hk; rfl
      | succ k => simpa [placesFit] using h2 k b (by simpa using hk)
    · cases k with
      | zero => simp at hk
      | succ k => simpa [placesFit] using h3 k b (by simpa using hk) (by simpa using hb)
  | none :: ms, x :: l, h => by
    obtain ⟨h1, h2, h3⟩ := placesFit_spec ι ms l (by simpa using h)
    refine ⟨by simp [placesFit, h1], fun k b hk => ?_, fun k b hk hb => ?_⟩
    · cases k with
      | zero => simp at hk
      | succ k => simpa [placesFit] using h2 k b (by simpa using hk)
    · cases k with
      | zero => simp at hb; subst hb; rfl
      | succ k => simpa [placesFit] using h3 k b (by simpa using hk) (by simpa using hb)

theorem fit_heap {n0 : Nat} {m : List (Option Nat)} {H H' : Heap} {ι : List Place} {w : World} {vc : List Prop} (hrh : RH ι H w) (honce : onceAll m = true) (hpre : isPre n0 0 m = true) (hn : n0 ≤ H.length)
    (h : fitH m H m H' = some vc) (hv : AllP vc) : ∃ ι', Mapped ι ι' m ∧ RH ι' H' w ∧ ExtN n0 ι H w ι' H' w ∧ n0 ≤ H'.length := by
  obtain ⟨hl, hk⟩ := fitH_spec h hv
  obtain ⟨p1, p2, p3⟩ := placesFit_spec ι m H' hl
  have hmap : Mapped ι (placesFit ι m H') m := by
    intro k b p hm hp
    rw [p2 k b hm, hp]; rfl
  -- what a named block comes from
  have src : ∀ (k : Nat) (p : Place) (b : Blk), (placesFit ι m H')[k]? = some p → H'[k]? = some (some b) → (p.blk = none ∧ b.c.rows = 0 ∧ p.sz = b.c.sz ∧ b.c.vias = []) ∨
      ∃ c blk vc', m[k]? = some (some c) ∧ ι[c]? = some p ∧ H[c]? = some (some blk) ∧ (b.own = true → blk.own = true) ∧ fitC m blk.c b.c = some vc' ∧ AllP vc' := by
    intro k p b hp hb
    rcases hk k b hb with ⟨h1, h2, h2'⟩ | ⟨c, blk, vc', h1, h2, h3, h4, h5⟩
    · left
      rw [p3 k b h1 hb] at hp
      cases hp
      exact ⟨rfl, h2, rfl, h2'⟩
    · right
      refine ⟨c, blk, vc', h1, ?_, h2, h3, h4, h5⟩
      have hlt : c < ι.length := by
        have := some_lt h2
        rw [hrh.len]; exact this
      rw [p2 k c h1, List.getElem?_eq_getElem hlt] at hp
      rw [List.getElem?_eq_getElem hlt]
      simpa using hp
  obtain ⟨q1, q2⟩ := isPre_spec hpre
  have hnl : n0 ≤ ι.length := by rw [hrh.len]; exact hn
  have hcell : ∀ k r j own xs v, HidCell (placesFit ι m H') H' w k r j own xs v → ∃ c own0, m[k]? = some (some c) ∧ HidCell ι H w c r j own0 xs v ∧ (own = true → own0 = true) := by
    rintro k r j own xs v ⟨p, b, n, sz, g, o, rb, cs, e, f, z1, z2, z3, z4, z5, z6, z7, z8, z9⟩
    rcases src k p b z1 z2 with ⟨h1, _⟩ | ⟨c, blk, vc', h1, h2, h3, h4, h5, h6⟩
    · rw [h1] at z7; cases z7
    · rw [z4] at h5
      obtain ⟨g0, o0, e1, e2⟩ := fitC_nst h5 h6
      exact ⟨c, blk.own, h1, ⟨p, blk, n, sz, g0, o0, rb, cs, e, f, h2, h3, rfl, e1, z5, by rw [e2 r z5]; exact z6, z7, z8, z9⟩, fun ho => h4 (by rw [z3]; exact ho)⟩
  have hown : ∀ rb, Own (placesFit ι m H') H' w rb → Own ι H w rb := by
    rintro rb (⟨k, p, b, hp, hb, ho, hrb⟩ | ⟨k, r, j, xs, v, hc, hi⟩)
    · rcases src k p b hp hb with ⟨h1, _⟩ | ⟨c, blk, vc', h1, h2, h3, h4, _⟩
      · rw [h1] at hrb; cases hrb
      · exact .inl ⟨c, p, blk, h2, h3, h4 ho, hrb⟩
    · obtain ⟨c, own0, c1, c2, c3⟩ := hcell _ _ _ _ _ _ hc
      rw [c3 rfl] at c2
      exact .inr ⟨c, r, j, xs, v, c2, hi⟩
  have hhid : HidOk (placesFit ι m H') H' w := by
    refine hrh.hid.via (fun k c => m[k]? = some (some c)) (Nat.le_refl _) (fun k r j own xs v hc => ?_) (fun k r j xs v k' own' r' j' xs' v' c hc hc' a1 a2 => ?_) fun k p b rb hp hb hrb => ?_
    · obtain ⟨c, own0, c1, c2, c3⟩ := hcell _ _ _ _ _ _ hc
      exact ⟨c, own0, c1, c2, c3, fun _ _ _ => rfl⟩
    · rcases Nat.decEq k k' with hne | he
      · exact absurd rfl (onceAll_spec honce k k' c c a1 a2 hne)
      · exact he.symm
    · rcases src k p b hp hb with ⟨h1, _⟩ | ⟨c, blk, vc', h1, h2, h3, h4, _⟩
      · rw [h1] at hrb; cases hrb
      · exact .inr ⟨c, p, blk, h2, hrb, h3, h4⟩
  refine ⟨placesFit ι m H', hmap, ⟨p1, fun k p b hp hb => ?_, fun i j p q b c rb hp hb ho hq hc hij hrb => ?_, fun k p b rb hp hb hrb => ?_, hhid⟩, ⟨⟨(placesFit ι m H').drop n0, ?_⟩, hnl, Fr.refl _ _, fun rb ho => .inl (hown rb ho)⟩, by omega⟩
  · rcases src k p b hp hb with ⟨h1, h2, h3, h3'⟩ | ⟨c, blk, vc', h1, h2, h3, h4, h5, h6⟩
    · refine ⟨h3, fun r hr => by omega, fun r j hr => by omega, fun _ rb hrb => ?_, fun r k' hk' => by rw [h3'] at hk'; cases hk'⟩
      rw [h1] at hrb; cases hrb
    · exact (hrh.blk c p blk h2 h3).fit hmap h5 h6 h4
  · rcases src i p b hp hb with ⟨h1, _⟩ | ⟨c1, blk1, _, h1, h2, h3, h4, _⟩
    · rw [h1] at hrb; cases hrb
    · intro hrb'
      rcases src j q c hq hc with ⟨g1, _⟩ | ⟨c2, blk2, _, g1, g2, g3, _, _⟩
      · rw [g1] at hrb'; cases hrb'
      · exact hrh.sep c1 c2 p q blk1 blk2 rb h2 h3 (h4 ho) g2 g3 (onceAll_spec honce i j c1 c2 h1 g1 hij) hrb hrb'
  · rcases src k p b hp hb with ⟨h1, _⟩ | ⟨c, blk, vc', h1, h2, h3, _⟩
    · rw [h1] at hrb; cases hrb
    · exact hrh.lt c p blk rb h2 h3 hrb
  · have : (placesFit ι m H').take n0 = ι.take n0 := by
      apply List.ext_getElem?
      intro i
      rcases Nat.lt_or_ge i n0 with hi | hi
      · rw [List.getElem?_take_of_lt hi, List.getElem?_take_of_lt hi]
        have hil : i < ι.length := by omega
        rw [p2 i _ (by simpa using q2 i hi), List.getElem?_eq_getElem hil]
        rfl
      · rw [List.getElem?_eq_none (by simp; omega), List.getElem?_eq_none (by simp; omega)]
    rw [← this, List.take_append_drop]

theorem fit_sound {N n0 : Nat} {m : List (Option Nat)} {s s' : St} {ι : List Place} {a : Act} {w : World} {vc : List Prop} (hr : Rel N ι s a w) (hn : n0 ≤ s.hp.length) (h : fit n0 m s s' = some vc) (hv : AllP vc) :
    ∃ ι', Rel N ι' s' a w ∧ ExtN n0 ι s.hp w ι' s'.hp w ∧ n0 ≤ s'.hp.length := by
  unfold fit at h
  cases ho : (onceAll m && isPre n0 0 m) with
  | false => simp [ho] at h
  | true =>
    simp only [ho, cond_true] at h
    simp only [Bool.and_eq_true] at ho
    split at h
    · rename_i va vb ha hb
      simp only [Option.some.injEq] at h; subst h
      obtain ⟨v1, v2⟩ := allP_app hv
      obtain ⟨ι', hm, hrh, hx, hle⟩ := fit_heap hr.rh ho.1 ho.2 hn hb v2
      refine ⟨ι', ⟨hr.size, hr.defers, fun t v' ht => ?_, hrh⟩, hx, hle⟩
      obtain ⟨v, vc', h1, h2, h3⟩ := fitE_spec ha v1 t v' ht
      obtain ⟨g1, g2⟩ := hr.env t v h1
      exact ⟨g1, fitV_sound _ _ _ _ _ _ _ hm h2 h3 g2⟩
    · cases h

end Go.Sim
