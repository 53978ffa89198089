/- A pure account of the values, floats and memory of a run, and how it stands to the model's (part 17: a state taken as another). Conditions: none. -/
import Derived.Test.YtgjdkhocnnoimaaS15

section
namespace Go.Sim
open Go

/-- Values and memory ahead of operation 'i' in the lexical run. -/
def envAt (ts : List Tr) (e : Env) (i : Nat) : Env := match ts[i]? with | some t => t.e | none => e
def heapAt (ts : List Tr) (H : Heap) (i : Nat) : Heap := match ts[i]? with | some t => t.H | none => H

theorem evTr_spec {P : Program} {N : Nat} {all : List Oper} : ∀ {l : List Oper} {s s' : St} {os os' : List Orc} {ts : List Tr}, evTr P N all l s os = some (ts, s', os') →
    (∀ t ∈ ts, AllP t.vc) →
    ts.length = l.length ∧ envAt ts s'.tm 0 = s.tm ∧ heapAt ts s'.hp 0 = s.hp ∧
    ∀ (i : Nat) (o : Oper), l[i]? = some o → ∃ t, ts[i]? = some t ∧ TrOk P all o t ∧ putD N o.dst t.v t.e = some (envAt ts s'.tm (i + 1)) ∧ heapAt ts s'.hp (i + 1) = t.H'
  | [], s, s', os, os', ts, h, _ => by
    simp only [evTr, Option.some.injEq, Prod.mk.injEq] at h
    obtain ⟨rfl, rfl, rfl⟩ := h
    exact ⟨rfl, rfl, rfl, fun i o hi => by simp at hi⟩
  | o :: l, s, s', os, os', ts, h, hv => by
    simp only [evTr] at h
    have key : ∃ (g : Bool) (os1 : List Orc) (v : Value) (H1 : Heap) (vc : List Prop) (e : Env) (os2 : List Orc) (ts2 : List Tr), ts = ⟨s.tm, s.hp, os1, g, v, H1, vc⟩ :: ts2 ∧ putD N o.dst v s.tm = some e ∧
        evTr P N all l ⟨e, H1⟩ os2 = some (ts2, s', os') ∧ (AllP vc → TrOk P all o ⟨s.tm, s.hp, os1, g, v, H1, vc⟩) := by
      split at h
      · rename_i os1 vg hg
        split at h
        · rename_i r hop
          split at h
          · rename_i e hput
            split at h
            · rename_i ts2 s2 os2 hrest
              simp only [Option.some.injEq, Prod.mk.injEq] at h
              obtain ⟨rfl, rfl, rfl⟩ := h
              refine ⟨true, os1, r.v, r.hp, vg ++ r.vc, e, r.os, ts2, rfl, hput, hrest, fun hvc => ?_⟩
              obtain ⟨a1, a2⟩ := allP_append _ _ hvc
              exact ⟨⟨os, vg, hg, a1⟩, fun _ => ⟨r, hop, rfl, rfl, a2⟩, fun hh => by cases hh⟩
            · cases h
          · cases h
        · cases h
      · rename_i os1 vg hg
        split at h
        · rename_i e hput
          split at h
          · rename_i ts2 s2 os2 hrest
            simp only [Option.some.injEq, Prod.mk.injEq] at h
            obtain ⟨rfl, rfl, rfl⟩ := h
            exact ⟨false, os1, undef, s.hp, vg, e, os1, ts2, rfl, hput, hrest, fun hvc => ⟨⟨os, vg, hg, hvc⟩, fun hh => (by cases hh), fun _ => ⟨rfl, rfl⟩⟩⟩
          · cases h
        · cases h
      · cases h
    obtain ⟨g, os1, v, H1, vc, e, os2, ts2, rfl, hput, hrest, htr⟩ := key
    obtain ⟨i1, i2, i3, i4⟩ := evTr_spec hrest (fun t ht => hv t (List.mem_cons_of_mem _ ht))
    have e1 : ∀ i x, envAt (⟨s.tm, s.hp, os1, g, v, H1, vc⟩ :: ts2) x (i + 1) = envAt ts2 x i := fun i x => by simp [envAt]
    have e2 : ∀ i x, heapAt (⟨s.tm, s.hp, os1, g, v, H1, vc⟩ :: ts2) x (i + 1) = heapAt ts2 x i := fun i x => by simp [heapAt]
    refine ⟨by simp [i1], rfl, rfl, fun i o' hi => ?_⟩
    cases i with
    | zero =>
      simp at hi; subst hi
      exact ⟨_, rfl, htr (hv _ (List.mem_cons_self ..)), by rw [e1, i2]; exact hput, by rw [e2, i3]⟩
    | succ i =>
      obtain ⟨t, g1, g2, g3, g4⟩ := i4 i o' (by simpa using hi)
      exact ⟨t, by simpa using g1, g2, by rw [e1]; exact g3, by rw [e2]; exact g4⟩

theorem readVcs_spec {P : Program} {q : Nat} {M E : List Nat} {HS : List Heap} : ∀ {l : List Oper} {ts : List Tr} {k : Nat} {vc : List Prop}, readVcs P q M E HS k l ts = some vc → AllP vc →
    (∀ t ∈ ts, AllP t.vc) ∧ ∀ (i : Nat) (o : Oper) (t : Tr), l[i]? = some o → ts[i]? = some t → (isRead o.op || isQuiet q (k + i) o) = true → t.g = true →
      (isEff o.op = true → t.H' = t.H) ∧ ∃ a, readAll P o t (cnt (fun e => Nat.blt e (k + i)) E) (cnt (fun e => anc M e (k + i)) E) (cnt (fun e => !anc M (k + i) e) E) 0 HS = some a ∧ AllP a
  | [], [], k, vc, _, _ => ⟨fun t ht => (by cases ht), fun i o t hi => by simp at hi⟩
  | [], _ :: _, k, vc, h, _ => by simp [readVcs] at h
  | _ :: _, [], k, vc, h, _ => by simp [readVcs] at h
  | o :: l, t :: ts, k, vc, h, hv => by
    simp only [readVcs] at h
    split at h
    · rename_i b hb
      have idx : ∀ i, k + 1 + i = k + (i + 1) := fun i => by omega
      cases hr : ((isRead o.op || isQuiet q k o) && t.g) with
      | true =>
        simp only [hr, cond_true] at h
        split at h
        · rename_i a ha
          simp only [Option.some.injEq] at h; subst h
          obtain ⟨h1, h3⟩ := allP_append _ _ hv
          obtain ⟨h1, h2⟩ := allP_append _ _ h1
          obtain ⟨q1, q2⟩ := readVcs_spec hb h3
          have h2' : (isEff o.op = true → t.H' = t.H) ∧ AllP a := by
            cases he : isEff o.op with
            | true => rw [he] at h2; exact ⟨fun _ => h2.1, h2.2⟩
            | false => rw [he] at h2; exact ⟨fun hh => (by cases hh), h2⟩
          refine ⟨fun t' ht' => ?_, fun i o' t' hi ht' hr' hg' => ?_⟩
          · rcases List.mem_cons.1 ht' with rfl | ht'
            · exact h1
            · exact q1 t' ht'
          · cases i with
            | zero => simp at hi ht'; subst hi; subst ht'; exact ⟨h2'.1, a, by simpa using ha, h2'.2⟩
            | succ i => have := q2 i o' t' (by simpa using hi) (by simpa using ht') (by rw [idx]; exact hr') hg'; rwa [idx] at this
        · cases h
      | false =>
        simp only [hr, cond_false, Option.some.injEq] at h; subst h
        obtain ⟨h1, h3⟩ := allP_append _ _ hv
        obtain ⟨q1, q2⟩ := readVcs_spec hb h3
        refine ⟨fun t' ht' => ?_, fun i o' t' hi ht' hr' hg' => ?_⟩
        · rcases List.mem_cons.1 ht' with rfl | ht'
          · exact h1
          · exact q1 t' ht'
        · cases i with
          | zero => simp at hi ht'; subst hi; subst ht'; rw [Nat.add_zero] at hr'; rw [hr', hg'] at hr; cases hr
          | succ i => have := q2 i o' t' (by simpa using hi) (by simpa using ht') (by rw [idx]; exact hr') hg'; rwa [idx] at this
    · cases h

theorem readAll_spec {P : Program} {o : Oper} {t : Tr} {own lo hi : Nat} : ∀ {HS : List Heap} {k : Nat} {a : List Prop}, readAll P o t own lo hi k HS = some a → AllP a →
    ∀ (j : Nat) (H : Heap), HS[j]? = some H → k + j ≠ own → lo ≤ k + j → k + j ≤ hi → ∃ r, evOp P o.op t.e H t.os = some r ∧ r.v = t.v ∧ (isEff o.op = true → r.hp = H) ∧ AllP r.vc
  | [], k, a, _, _, j, H, hj, _, _, _ => by simp at hj
  | H0 :: HS, k, a, h, hv, j, H, hj, h1, h2, h3 => by
    simp only [readAll] at h
    cases hc : (!(Nat.beq k own) && Nat.ble lo k && Nat.ble k hi) with
    | true =>
      simp only [hc, cond_true] at h
      split at h
      · rename_i a1 b1 ha hb
        simp only [Option.some.injEq] at h; subst h
        obtain ⟨v1, v2⟩ := allP_append _ _ hv
        cases j with
        | zero =>
          simp at hj; subst hj
          unfold readAt at ha
          split at ha
          · rename_i r hr
            simp only [Option.some.injEq] at ha; subst ha
            refine ⟨r, hr, v1.1, ?_⟩
            have v2' := v1.2
            cases he : isEff o.op with
            | true => rw [he] at v2'; exact ⟨fun _ => v2'.1, v2'.2⟩
            | false => rw [he] at v2'; exact ⟨fun hh => (by cases hh), v2'⟩
          · cases ha
        | succ j => exact readAll_spec hb v2 j H (by simpa using hj) (by omega) (by omega) (by omega)
      · cases h
    | false =>
      simp only [hc, cond_false] at h
      cases j with
      | zero =>
        exfalso
        have : (!(Nat.beq k own) && Nat.ble lo k && Nat.ble k hi) = true := by
          simp only [Bool.and_eq_true, Bool.not_eq_true']
          refine ⟨⟨?_, Nat.ble_eq_true_of_le h2⟩, Nat.ble_eq_true_of_le h3⟩
          cases hb : Nat.beq k own with
          | false => rfl
          | true => exact absurd (Nat.eq_of_beq_eq_true hb) h1
        rw [this] at hc; cases hc
      | succ j => exact readAll_spec h hv j H (by simpa using hj) (by omega) (by omega) (by omega)

theorem pickH_get : ∀ {E : List Nat} {ts : List Tr}, (∀ e ∈ E, e < ts.length) → ∀ (x e : Nat) (t : Tr), E[x]? = some e → ts[e]? = some t → (pickH E ts)[x]? = some t.H'
  | [], ts, _, x, e, t, h, _ => by simp at h
  | a :: E, ts, hE, x, e, t, hx, ht => by
    have ha := hE a (List.mem_cons_self ..)
    simp only [pickH, nth_eq, List.getElem?_eq_getElem ha]
    cases x with
    | zero => simp at hx; subst hx; rw [List.getElem?_eq_getElem ha] at ht; cases ht; rfl
    | succ x => simpa using pickH_get (fun e he => hE e (List.mem_cons_of_mem _ he)) x e t (by simpa using hx) ht

/-- In a rising list, as many are less than the one at place 'x' as its place tells. -/
theorem cnt_lt_sorted : ∀ {E : List Nat}, (∀ (x y a b : Nat), x < y → E[x]? = some a → E[y]? = some b → a < b) → ∀ (x i : Nat), E[x]? = some i → cnt (fun e => Nat.blt e i) E = x
  | [], _, x, i, h => by simp at h
  | a :: E, hs, x, i, h => by
    have hs' : ∀ (x y a b : Nat), x < y → E[x]? = some a → E[y]? = some b → a < b := fun x y c d hxy hc hd => hs (x + 1) (y + 1) c d (by omega) (by simpa using hc) (by simpa using hd)
    simp only [cnt]
    cases x with
    | zero =>
      simp at h; subst h
      have h1 : Nat.blt a a = false := by
        cases hb : Nat.blt a a with
        | false => rfl
        | true => have : a < a := Nat.le_of_ble_eq_true hb; omega
      rw [h1]
      simp only [cond_false]
      have : cnt (fun e => Nat.blt e a) E = cnt (fun _ => false) E := cnt_congr fun e he => by
        obtain ⟨y, hy⟩ := List.getElem?_of_mem he
        have := hs 0 (y + 1) a e (by omega) rfl (by simpa using hy)
        cases hb : Nat.blt e a with
        | false => rfl
        | true => have : e < a := Nat.le_of_ble_eq_true hb; omega
      rw [this]
      clear this hs hs' h1
      induction E with
      | nil => rfl
      | cons b E ih => simpa [cnt] using ih
    | succ x =>
      have hx : E[x]? = some i := by simpa using h
      have hlt := hs 0 (x + 1) a i (by omega) rfl h
      have h1 : Nat.blt a i = true := Nat.ble_eq_true_of_le hlt
      rw [h1]
      simp only [cond_true]
      rw [cnt_lt_sorted hs' x i hx]

theorem cnt_blt_succ {E : List Nat} {i : Nat} (h : i ∉ E) : cnt (fun e => Nat.blt e (i + 1)) E = cnt (fun e => Nat.blt e i) E :=
  cnt_congr fun e he => by
    have hne : e ≠ i := fun e' => h (by rw [← e']; exact he)
    cases h1 : Nat.blt e i with
    | true =>
      have : e < i := Nat.le_of_ble_eq_true h1
      exact Nat.ble_eq_true_of_le (show e + 1 ≤ i + 1 by omega)
    | false =>
      cases h2 : Nat.blt e (i + 1) with
      | false => rfl
      | true =>
        have h3 : e < i + 1 := Nat.le_of_ble_eq_true h2
        have : Nat.blt e i = true := Nat.ble_eq_true_of_le (show e + 1 ≤ i by omega)
        rw [this] at h1; cases h1

theorem blt_iff {a b : Nat} : Nat.blt a b = true ↔ a < b := ⟨fun h => Nat.le_of_ble_eq_true h, fun h => Nat.ble_eq_true_of_le h⟩

/-- How many of 'p' come to it when one more comes to it. -/
theorem cnt_set {p q : Nat → Bool} {i : Nat} : ∀ {E : List Nat}, (∀ (x y a b : Nat), x < y → E[x]? = some a → E[y]? = some b → a < b) → (∀ e, e ≠ i → q e = p e) → p i = false → q i = true → cnt q E = if i ∈ E then cnt p E + 1 else cnt p E
  | [], _, _, _, _ => by simp [cnt]
  | a :: E, hs, h, hp, hq => by
    have hs' : ∀ (x y a b : Nat), x < y → E[x]? = some a → E[y]? = some b → a < b := fun x y c d hxy hc hd => hs (x + 1) (y + 1) c d (by omega) (by simpa using hc) (by simpa using hd)
    have ih := cnt_set (E := E) hs' h hp hq
    simp only [cnt]
    by_cases ha : a = i
    · subst ha
      have hn : a ∉ E := by
        intro he
        obtain ⟨y, hy⟩ := List.getElem?_of_mem he
        have := hs 0 (y + 1) a a (by omega) rfl (by simpa using hy)
        omega
      rw [if_neg hn] at ih
      rw [hp, hq, ih]
      simp
    · rw [h a ha]
      have hmem : (i ∈ a :: E) ↔ i ∈ E := by simp [Ne.symm ha]
      by_cases hi : i ∈ E
      · rw [if_pos hi] at ih; rw [if_pos (hmem.2 hi), ih]; cases p a <;> simp
      · rw [if_neg hi] at ih; rw [if_neg (fun hh => hi (hmem.1 hh)), ih]

theorem cnt_none {p : Nat → Bool} : ∀ {E : List Nat}, (∀ e ∈ E, p e = false) → cnt p E = 0
  | [], _ => rfl
  | a :: E, h => by simp [cnt, h a (List.mem_cons_self ..), cnt_none fun e he => h e (List.mem_cons_of_mem _ he)]

section
variable {P : Program} {N : Nat}

/-- The allocation has come up ahead of an effect that stands ahead of it in the text. -/
def earlyB (f : Option Nat) (E : List Nat) (listed : Array Bool) : Bool := match f with
  | none => false
  | some x => listed.getD x false && !(allB (fun e => !(Nat.blt e x) || listed.getD e false) E)

theorem not_allB {p : Nat → Bool} : ∀ {l : List Nat}, allB p l = false → ∃ e ∈ l, p e = false
  | [], h => by cases h
  | x :: l, h => by
    simp only [allB] at h
    cases hp : p x with
    | false => exact ⟨x, List.mem_cons_self .., hp⟩
    | true =>
      rw [hp, Bool.true_and] at h
      obtain ⟨e, he, h'⟩ := not_allB h
      exact ⟨e, List.mem_cons_of_mem _ he, h'⟩

theorem early_true {f : Option Nat} {E : List Nat} {listed : Array Bool} (h : earlyB f E listed = true) : ∃ x, f = some x ∧ listed.getD x false = true ∧ ∃ e ∈ E, e < x ∧ listed.getD e false = false := by
  unfold earlyB at h
  split at h
  · cases h
  · rename_i x
    simp only [Bool.and_eq_true, Bool.not_eq_true'] at h
    obtain ⟨e, he, h'⟩ := not_allB h.2
    simp only [Bool.or_eq_false_iff, Bool.not_eq_false'] at h'
    exact ⟨x, rfl, h.1, e, he, blt_iff.1 h'.1, h'.2⟩

theorem early_of {x : Nat} {E : List Nat} {listed : Array Bool} (hx : listed.getD x false = true) {e : Nat} (he : e ∈ E) (hlt : e < x) (hn : listed.getD e false = false) : earlyB (some x) E listed = true := by
  unfold earlyB
  simp only [hx, Bool.true_and, Bool.not_eq_true']
  cases hc : allB (fun e => !(Nat.blt e x) || listed.getD e false) E with
  | false => rfl
  | true =>
    have := allB_spec hc e he
    rw [hn, blt_iff.2 hlt] at this; cases this

theorem keepsRO_refl : ∀ H : Heap, keepsRO H H = true
  | [] => rfl
  | some b :: H => by simpa [keepsRO] using keepsRO_refl H
  | none :: H => by simpa [keepsRO] using keepsRO_refl H

/-- What holds whenever some of the operations have come up. -/
structure Inv (P : Program) (N : Nat) (ops : Array Oper) (V : Nat → Value) (E : List Nat) (HS : List Heap) (f : Option Nat) (fb : Blk) (s : St) (ι0 : List Place) (w0 : World) (listed : Array Bool) (ι : List Place) (a : Act) (w : World) : Prop where
  size : a.tmps.size = N
  defers : a.defers = []
  lsize : listed.size = ops.size
  down : ∀ (i : Nat) (o : Oper), listed.getD i false = true → ops[i]? = some o → ∀ e ∈ o.after, Region.binds .any e = true → listed.getD e.on false = true
  pre : ∃ l, ι = ι0 ++ l
  heap0 : earlyB f E listed = false → ∃ H, HS[cnt (fun e => listed.getD e false) E]? = some H ∧ RH ι H w ∧ Ext ι0 s.hp w0 ι H w
  heap1 : earlyB f E listed = true → ∃ H p, HS[cnt (fun e => listed.getD e false) E - 1]? = some H ∧ RH ι H w ∧ Ext ι0 s.hp w0 (ι ++ [p]) (H ++ [some fb]) w ∧
    ∀ (x : Nat) (o : Oper) (d : Nat), f = some x → ops[x]? = some o → o.dst = some d → d < N ∧ VR (ι ++ [p]) (mv ι.length (V x)) (a.tmps.getD d undef)
  done : ∀ (j : Nat) (o : Oper) (d : Nat), ops[j]? = some o → o.dst = some d → listed.getD j false = true → (f = some j → earlyB f E listed = false) → d < N ∧ VR ι (V j) (a.tmps.getD d undef)
  rest : ∀ (t : Nat) (v : Value), look t s.tm = some v → (∀ (j : Nat) (o : Oper), ops[j]? = some o → o.dst = some t → listed.getD j false = false) → t < N ∧ VR ι v (a.tmps.getD t undef)

theorem getD_rep (n i : Nat) : (Array.replicate n false).getD i false = false := by
  rw [Array.getD_eq_getD_getElem?]
  rcases Nat.lt_or_ge i n with h | h
  · rw [Array.getElem?_eq_getElem (by simpa using h)]; simp
  · rw [Array.getElem?_eq_none (by simpa using h)]; rfl

theorem filter_set : ∀ (l : List Bool) (i : Nat), l[i]? = some false → ((l.set i true).filter id).length = (l.filter id).length + 1
  | [], i, h => by simp at h
  | b :: l, 0, h => by simp at h; subst h; simp
  | b :: l, i + 1, h => by
    have ih := filter_set l i (by simpa using h)
    simp only [List.set_cons_succ, List.filter_cons]
    cases b <;> simp [ih]

theorem wp_region_drawn {rid : Nat} {ops : Array Oper} {Q : Exit → Act → World → Prop} {s s' : St} {os os' : List Orc} {vc : List Prop} {ι : List Place} {a : Act} {w : World} (hm : P.follows .mixedOrders = true)
    (h : evDraw P N ops.toList s os = some (s', os', vc)) (hv : AllP vc) (hr : Rel N ι s a w) (hq : ∀ ι' a' w', Rel N ι' s' a' w' → Ext ι s.hp w ι' s'.hp w' → Q .normal a' w') : (Code.region rid ops true).wp P Q a w := by
  unfold evDraw at h
  generalize quietOf os = qo at h
  obtain ⟨qm, fl, os⟩ := qo
  simp only at h
  cases hdo : drawOk qm fl ops.toList with
  | false => simp [hdo] at h
  | true =>
    simp only [hdo, cond_true] at h
    split at h
    · rename_i ts s2 os2 htr
      split at h
      · rename_i vc2 vf2 hrd hfl
        simp only [Option.some.injEq, Prod.mk.injEq] at h
        obtain ⟨rfl, rfl, rfl⟩ := h
        obtain ⟨hv, hvf⟩ := allP_append _ _ hv
        obtain ⟨hvt, hreads⟩ := readVcs_spec hrd hv
        obtain ⟨t1, t2, t3, t4⟩ := evTr_spec htr hvt
        simp only [drawOk, Bool.and_eq_true] at hdo
        have hidx : ∀ (j : Nat) (o : Oper), ops.toList[j]? = some o ↔ ops[j]? = some o := fun j o => by simp
        have each : ∀ (i : Nat) (o : Oper), ops[i]? = some o → EachOk ops.toList i o := fun i o ho => eachOk_spec (k := 0) (by intro j; simp) hdo.1.1 i o (Nat.zero_le _) ((hidx i o).2 ho)
        generalize hE : effFrom qm 0 ops.toList = E at *
        generalize hM : masks ops.toList [] = M at *
        have hpair : ∀ (x y : Nat) (a b : Nat), x < y → E[x]? = some a → E[y]? = some b → anc M a b = true ∨ fl = some b := fun x y a b h1 h2 h3 => pairOk_spec hdo.1.2 x y a b h1 h2 h3
        have hfloat : ∀ x, fl = some x → x ∈ E ∧ ∀ (i : Nat), i < ops.size → anc M x i = true → ∀ e ∈ E, e < x → anc M e i = true := by
          rintro x rfl
          obtain ⟨a1, a2⟩ := floatOk_spec hdo.2
          exact ⟨a1, fun i hi => a2 i (by simpa using hi)⟩
        have hsort : ∀ (x y a b : Nat), x < y → E[x]? = some a → E[y]? = some b → a < b := by rw [← hE]; exact fun x y a b h1 h2 h3 => effFrom_sorted h1 h2 h3
        have hmemE : ∀ i, i ∈ E ↔ ∃ o, ops[i]? = some o ∧ isEff o.op = true ∧ Nat.testBit qm i = false := by
          intro i; rw [← hE, effFrom_spec]; simp
        have hquiet : ∀ (i : Nat) (o : Oper), ops[i]? = some o → i ∉ E → isEff o.op = true → isQuiet qm i o = true := by
          intro i o ho hi he
          unfold isQuiet
          rw [he]
          cases hb : Nat.testBit qm i with
          | true => rfl
          | false => exact absurd ((hmemE i).2 ⟨o, ho, he, hb⟩) hi
        have hEn : ∀ e ∈ E, e < ts.length := by
          intro e he
          obtain ⟨o, ho, _⟩ := (hmemE e).1 he
          rw [t1]
          exact some_lt ((hidx e o).2 ho)
        generalize hHS : s.hp :: pickH E ts = HS at *
        have hfb : ∃ fb : Blk, fb.own = true ∧ flatC fb.c = true ∧ ∀ x, fl = some x → ∃ o t, ops[x]? = some o ∧ ts[x]? = some t ∧ t.g = true ∧ isNew t.v = true ∧ t.v = mv t.H.length t.v ∧ t.H' = t.H ++ [some fb] ∧
            heapsOk (cnt (fun e => Nat.blt e x) E) HS = true ∧ ∃ c, floatAll P o t fb (cnt (fun e => anc M e x) E) (cnt (fun e => Nat.blt e x) E) 0 HS = some c ∧ AllP c := by
          cases fl with
          | none => exact ⟨⟨true, .fl .f32 []⟩, rfl, rfl, fun x hx => by cases hx⟩
          | some x =>
            simp only [floatVcs] at hfl
            split at hfl
            · rename_i o t ho ht
              split at hfl
              · rename_i b hb
                cases hc : (t.g && b.own && flatC b.c && isNew t.v && heapsOk (cnt (fun e => Nat.blt e x) E) HS) with
                | false => simp [hc] at hfl
                | true =>
                  simp only [hc, cond_true] at hfl
                  simp only [Bool.and_eq_true] at hc
                  split at hfl
                  · rename_i c hcc
                    simp only [Option.some.injEq] at hfl; subst hfl
                    obtain ⟨z1, z2, z3⟩ := hvf
                    refine ⟨b, hc.1.1.1.2, hc.1.1.2, fun y hy => ?_⟩
                    cases hy
                    rw [nth_eq] at ho ht
                    exact ⟨o, t, (hidx x o).1 ho, ht, hc.1.1.1.1, hc.1.2, z1, z2, hc.2, c, hcc, z3⟩
                  · cases hfl
              · cases hfl
            · cases hfl
        obtain ⟨fb, hfo, hff, hfx⟩ := hfb
        -- the trace by operations
        have tr : ∀ (i : Nat) (o : Oper), ops[i]? = some o → ∃ t, ts[i]? = some t ∧ TrOk P ops.toList o t ∧ putD N o.dst t.v t.e = some (envAt ts s2.tm (i + 1)) ∧ heapAt ts s2.hp (i + 1) = t.H' :=
          fun i o ho => t4 i o ((hidx i o).2 ho)
        let V : Nat → Value := fun i => match ts[i]? with | some t => t.v | none => undef
        have hV : ∀ (i : Nat) (t : Tr), ts[i]? = some t → V i = t.v := fun i t ht => by simp [V, ht]
        have henv : ∀ (i : Nat) (t : Tr), ts[i]? = some t → t.e = envAt ts s2.tm i := fun i t ht => by simp [envAt, ht]
        have hheap : ∀ (i : Nat) (t : Tr), ts[i]? = some t → t.H = heapAt ts s2.hp i := fun i t ht => by simp [heapAt, ht]
        -- the lexical run's values
        have ewr : ∀ i, i ≤ ops.size → (∀ (j d : Nat) (o : Oper), j < i → ops[j]? = some o → o.dst = some d → look d (envAt ts s2.tm i) = some (V j) ∧ d < N) ∧
            (∀ d, (∀ (j : Nat) (o : Oper), j < i → ops[j]? = some o → o.dst ≠ some d) → look d (envAt ts s2.tm i) = look d s.tm) := by
          intro i
          induction i with
          | zero => intro _; exact ⟨fun j d o hj => by omega, fun d _ => by rw [t2]⟩
          | succ i ih =>
            intro hi
            obtain ⟨ih1, ih2⟩ := ih (by omega)
            obtain ⟨o, ho⟩ : ∃ o, ops[i]? = some o := ⟨_, Array.getElem?_eq_getElem (by omega)⟩
            obtain ⟨t, g1, g2, g3, g4⟩ := tr i o ho
            have hte := henv i t g1
            cases hd : o.dst with
            | none =>
              rw [hd] at g3
              simp only [putD, Option.some.injEq] at g3
              rw [← g3, hte]
              refine ⟨fun j d o' hj ho' hd' => ?_, fun d hn => ih2 d fun j o' hj ho' => hn j o' (by omega) ho'⟩
              rcases Nat.lt_or_ge j i with hji | hji
              · exact ih1 j d o' hji ho' hd'
              · have : j = i := by omega
                subst this
                rw [ho] at ho'; cases ho'; rw [hd] at hd'; cases hd'
            | some d0 =>
              rw [hd] at g3
              simp only [putD] at g3
              cases hb : Nat.blt d0 N with
              | false => simp [hb] at g3
              | true =>
                simp only [hb, cond_true, Option.some.injEq] at g3
                rw [← g3, hte]
                have hd0 : d0 < N := blt_iff.1 hb
                refine ⟨fun j d o' hj ho' hd' => ?_, fun d hn => ?_⟩
                · rw [look_ins]
                  rcases Nat.lt_or_ge j i with hji | hji
                  · have hne : d ≠ d0 := by
                      intro e; subst e
                      exact (each j o' ho').once d hd' i o hji ((hidx i o).2 ho) hd
                    rw [if_neg hne]
                    exact ih1 j d o' hji ho' hd'
                  · have : j = i := by omega
                    subst this
                    rw [ho] at ho'; cases ho'; rw [hd] at hd'; cases hd'
                    rw [if_pos rfl]
                    exact ⟨by rw [hV j t g1], hd0⟩
                · have hne : d ≠ d0 := by
                    intro e; subst e
                    exact hn i o (by omega) ho hd
                  rw [look_ins, if_neg hne]
                  exact ih2 d fun j o' hj ho' => hn j o' (by omega) ho'
        -- the lexical run's memories
        have hhs : ∀ i, i ≤ ops.size → HS[cnt (fun e => Nat.blt e i) E]? = some (heapAt ts s2.hp i) := by
          intro i
          induction i with
          | zero =>
            intro _
            rw [cnt_none (p := fun e => Nat.blt e 0) (fun e _ => rfl), ← hHS, t3]; rfl
          | succ i ih =>
            intro hi
            have ih := ih (by omega)
            obtain ⟨o, ho⟩ : ∃ o, ops[i]? = some o := ⟨_, Array.getElem?_eq_getElem (by omega)⟩
            obtain ⟨t, g1, g2, g3, g4⟩ := tr i o ho
            by_cases hi' : i ∈ E
            · obtain ⟨x, hx⟩ := List.getElem?_of_mem hi'
              have c1 := cnt_lt_sorted hsort x i hx
              have c2 : cnt (fun e => Nat.blt e (i + 1)) E = x + 1 := by
                have := cnt_set (p := fun e => Nat.blt e i) (q := fun e => Nat.blt e (i + 1)) (i := i) hsort (fun e he => by
                  show Nat.blt e (i + 1) = Nat.blt e i
                  cases h1 : Nat.blt e i with
                  | true => exact blt_iff.2 (by have := blt_iff.1 h1; omega)
                  | false =>
                    cases h2 : Nat.blt e (i + 1) with
                    | false => rfl
                    | true =>
                      have h3 := blt_iff.1 h2
                      have : Nat.blt e i = true := blt_iff.2 (by omega)
                      rw [this] at h1; cases h1)
                  (by cases hb : Nat.blt i i with
                      | false => rfl
                      | true => have := blt_iff.1 hb; omega) (blt_iff.2 (by omega))
                rw [if_pos hi', c1] at this
                exact this
              rw [c2, g4, ← hHS]
              simp only [List.getElem?_cons_succ]
              exact pickH_get hEn x i t hx g1
            · rw [cnt_blt_succ hi', ih, g4]
              congr 1
              rw [← hheap i t g1]
              cases hg : t.g with
              | true =>
                obtain ⟨r, q1, q2, q3, q4⟩ := g2.run hg
                cases he : isEff o.op with
                | false => rw [← q3, evOp_quiet he q1]
                | true => exact ((hreads i o t ((hidx i o).2 ho) g1 (by rw [Nat.zero_add, hquiet i o ho hi' he, Bool.or_true]) hg).1 he).symm
              | false => exact (g2.skip hg).2.symm
        refine wp_region_any hm ?_
        -- the main induction
        have main : ∀ (fuel : Nat) (listed : Array Bool) (ι1 : List Place) (a1 : Act) (w1 : World), Inv P N ops V E HS fl fb s ι w listed ι1 a1 w1 → (ops.size ≤ fuel + (listed.toList.filter id).length) →
            wpAny P .any ops Q fuel listed a1 w1 := by
          -- no more to come up
          have fin : ∀ (listed : Array Bool) (ι1 : List Place) (a1 : Act) (w1 : World), Inv P N ops V E HS fl fb s ι w listed ι1 a1 w1 → Region.ready .any ops listed = [] → Q .normal a1 w1 := by
            intro listed ι1 a1 w1 hI hrdy
            have hall : ∀ i, i < ops.size → listed.getD i false = true := by
              intro i
              induction i using Nat.strongRecOn with
              | _ i ih =>
                intro hi
                cases hl : listed.getD i false with
                | true => rfl
                | false =>
                  exfalso
                  obtain ⟨o, ho⟩ : ∃ o, ops[i]? = some o := ⟨_, Array.getElem?_eq_getElem hi⟩
                  have : i ∈ Region.ready .any ops listed := by
                    rw [mem_ready]
                    refine ⟨?_, o, ho, fun e he hb => ?_⟩
                    · have hi2 : i < listed.size := by rw [hI.lsize]; exact hi
                      rw [Array.getD_eq_getD_getElem?, Array.getElem?_eq_getElem hi2] at hl ⊢
                      exact hl
                    · have hlt := (each i o ho).back e (by simpa using he) hb
                      exact ih e.on hlt (by omega)
                  rw [hrdy] at this; cases this
            have hne : earlyB fl E listed = false := by
              cases he : earlyB fl E listed with
              | false => rfl
              | true =>
                obtain ⟨x, _, _, e, he1, _, he2⟩ := early_true he
                obtain ⟨o, ho, _⟩ := (hmemE e).1 he1
                rw [hall e (Array.getElem?_eq_some_iff.1 ho).1] at he2; cases he2
            obtain ⟨H, h1, h2, h3⟩ := hI.heap0 hne
            have hc : cnt (fun e => listed.getD e false) E = cnt (fun e => Nat.blt e ops.size) E := cnt_congr fun e he => by
              obtain ⟨o, ho, _⟩ := (hmemE e).1 he
              have hlt : e < ops.size := (Array.getElem?_eq_some_iff.1 ho).1
              rw [hall e hlt]; exact (blt_iff.2 hlt).symm
            rw [hc, hhs ops.size (Nat.le_refl _)] at h1
            have hfin : heapAt ts s2.hp ops.size = s2.hp := by simp [heapAt, t1]
            have hfe : envAt ts s2.tm ops.size = s2.tm := by simp [envAt, t1]
            rw [hfin] at h1; cases h1
            obtain ⟨q1, q2⟩ := ewr ops.size (Nat.le_refl _)
            rw [hfe] at q1 q2
            refine hq ι1 a1 w1 ⟨hI.size, hI.defers, fun t v ht => ?_, h2⟩ h3
            by_cases hw : ∃ (j : Nat) (o : Oper), ops[j]? = some o ∧ o.dst = some t
            · obtain ⟨j, o, ho, hd⟩ := hw
              have hlt : j < ops.size := (Array.getElem?_eq_some_iff.1 ho).1
              have := (q1 j t o hlt ho hd).1
              rw [ht] at this; cases this
              exact hI.done j o t ho hd (hall j hlt) fun _ => hne
            · have hw' : ∀ (j : Nat) (o : Oper), ops[j]? = some o → o.dst ≠ some t := fun j o ho hd => hw ⟨j, o, ho, hd⟩
              rw [q2 t fun j o _ ho => hw' j o ho] at ht
              exact hI.rest t v ht fun j o ho hd => absurd hd (hw' j o ho)
          intro fuel
          induction fuel with
          | zero =>
            intro listed ι1 a1 w1 hI hf
            have hrdy : Region.ready .any ops listed = [] := by
              cases hc : Region.ready .any ops listed with
              | nil => rfl
              | cons i l =>
                exfalso
                have hi : i ∈ Region.ready .any ops listed := by rw [hc]; exact List.mem_cons_self ..
                rw [mem_ready] at hi
                obtain ⟨h0, o, ho, _⟩ := hi
                have hlt : i < listed.size := by
                  rcases Nat.lt_or_ge i listed.size with h' | h'
                  · exact h'
                  · rw [Array.getD_eq_getD_getElem?, Array.getElem?_eq_none h'] at h0; cases h0
                have hx : (listed.toList.filter id).length < listed.toList.length := by
                  have hsub := List.length_filter_le id listed.toList
                  rcases Nat.lt_or_ge (listed.toList.filter id).length listed.toList.length with h' | h'
                  · exact h'
                  · exfalso
                    have heq : (listed.toList.filter id).length = listed.toList.length := by omega
                    have hall := List.length_filter_eq_length_iff.1 heq
                    have h2 : listed.toList[i]? = some listed[i] := by simp [hlt]
                    have h3 := hall _ (List.mem_of_getElem? h2)
                    rw [Array.getD_eq_getD_getElem?, Array.getElem?_eq_getElem hlt] at h0
                    simp at h0 h3
                    rw [h0] at h3; cases h3
                have := hI.lsize
                simp only [Array.length_toList] at hx
                omega
            exact ⟨hrdy, fin listed ι1 a1 w1 hI hrdy⟩
          | succ fuel ihf =>
            intro listed ι1 a1 w1 hI hf
            refine ⟨fin listed ι1 a1 w1 hI, fun i hi => ?_⟩
            rw [mem_ready] at hi
            obtain ⟨h0, o, ho, hdeps⟩ := hi
            have hlt : i < ops.size := (Array.getElem?_eq_some_iff.1 ho).1
            have hltl : i < listed.size := by rw [hI.lsize]; exact hlt
            have hnl : listed.getD i false = false := by
              rw [Array.getD_eq_getD_getElem?, Array.getElem?_eq_getElem hltl] at h0 ⊢; exact h0
            have hek := each i o ho
            -- what stands before 'i' has come up
            have hup : ∀ (n j : Nat) (o' : Oper), n < ops.size → (n = i ∨ listed.getD n false = true) → ops[n]? = some o' → anc M j n = true → listed.getD j false = true := by
              intro n
              induction n using Nat.strongRecOn with
              | _ n ih =>
                intro j o' hn hcase ho' hj
                rw [← hM] at hj
                have hbk := (each n o' ho').back
                obtain ⟨e, he, hb, hje⟩ := anc_spec ((hidx n o').2 ho') hbk hj
                have hon := hbk e he hb
                have hel : listed.getD e.on false = true := by
                  rcases hcase with rfl | hcase
                  · rw [ho] at ho'; cases ho'
                    exact hdeps e (by simpa using he) hb
                  · exact hI.down n o' hcase ho' e (by simpa using he) hb
                rcases hje with rfl | hje
                · exact hel
                · obtain ⟨o3, ho3⟩ : ∃ o3, ops[e.on]? = some o3 := ⟨_, Array.getElem?_eq_getElem (by omega)⟩
                  rw [hM] at hje
                  exact ih e.on hon j o3 (by omega) (.inr hel) ho3 hje
            have hup1 : ∀ j, anc M j i = true → listed.getD j false = true := fun j hj => hup i j o hlt (.inl rfl) ho hj
            -- what has come up does not stand behind 'i'
            have hdn : ∀ (n : Nat) (o' : Oper), ops[n]? = some o' → listed.getD n false = true → anc M i n = false := by
              intro n
              induction n using Nat.strongRecOn with
              | _ n ih =>
                intro o' ho' hl
                cases hc : anc M i n with
                | false => rfl
                | true =>
                  exfalso
                  rw [← hM] at hc
                  have hbk := (each n o' ho').back
                  obtain ⟨e, he, hb, hje⟩ := anc_spec ((hidx n o').2 ho') hbk hc
                  have hon := hbk e he hb
                  have hnlt : n < ops.size := (Array.getElem?_eq_some_iff.1 ho').1
                  have hel := hI.down n o' hl ho' e (by simpa using he) hb
                  rcases hje with hje | hje
                  · rw [← hje, hnl] at hel; cases hel
                  · obtain ⟨o3, ho3⟩ : ∃ o3, ops[e.on]? = some o3 := ⟨_, Array.getElem?_eq_getElem (by omega)⟩
                    have := ih e.on hon o3 ho3 hel
                    rw [hM, this] at hje; cases hje
            -- nothing behind the early operation is ready
            have hnoanc : ∀ x, fl = some x → earlyB fl E listed = true → anc M x i = false := by
              intro x hx he
              obtain ⟨x', hx', _, e, he1, he2, he3⟩ := early_true he
              rw [hx] at hx'; cases hx'
              cases hc : anc M x i with
              | false => rfl
              | true =>
                have := hup1 e ((hfloat x hx).2 i hlt hc e he1 he2)
                rw [he3] at this; cases this
            obtain ⟨t, g1, g2, g3, g4⟩ := tr i o ho
            obtain ⟨q1, q2⟩ := ewr i (by omega)
            -- the values that 'i' looks at
            have hlook : ∀ tt ∈ tmpsOf ops.toList o, ∀ v, look tt t.e = some v → tt < N ∧ VR ι1 v (a1.tmps.getD tt undef) := by
              intro tt htt v hv'
              rw [henv i t g1] at hv'
              by_cases hw : ∃ (j : Nat) (o' : Oper), ops[j]? = some o' ∧ o'.dst = some tt
              · obtain ⟨j, o', ho', hd'⟩ := hw
                have hrd' := hek.reads tt htt j o' ((hidx j o').2 ho') hd'
                rw [hM] at hrd'
                rcases hrd' with ⟨hji, hanc⟩ | ⟨hij, hanc⟩
                · have := (q1 j tt o' hji ho' hd').1
                  rw [hv'] at this; cases this
                  refine hI.done j o' tt ho' hd' (hup1 j hanc) fun hfj => ?_
                  cases he : earlyB fl E listed with
                  | false => rfl
                  | true => have := hnoanc j hfj he; rw [hanc] at this; cases this
                · have hnw : ∀ (j2 : Nat) (o2 : Oper), j2 < i → ops[j2]? = some o2 → o2.dst ≠ some tt := fun j2 o2 hj2 ho2 hd2 =>
                    (each j2 o2 ho2).once tt hd2 j o' (by omega) ((hidx j o').2 ho') hd'
                  rw [q2 tt hnw] at hv'
                  refine hI.rest tt v hv' fun j2 o2 ho2 hd2 => ?_
                  have hj2 : j2 = j := by
                    rcases Nat.lt_trichotomy j2 j with hh | hh | hh
                    · exact absurd hd' ((each j2 o2 ho2).once tt hd2 j o' hh ((hidx j o').2 ho'))
                    · exact hh
                    · exact absurd hd2 ((each j o' ho').once tt hd' j2 o2 hh ((hidx j2 o2).2 ho2))
                  subst hj2
                  cases hl : listed.getD j2 false with
                  | false => rfl
                  | true => have := hdn j2 o2 ho2 hl; rw [hanc] at this; cases this
              · have hw' : ∀ (j : Nat) (o : Oper), ops[j]? = some o → o.dst ≠ some tt := fun j o ho hd => hw ⟨j, o, ho, hd⟩
                rw [q2 tt fun j o' _ ho' => hw' j o' ho'] at hv'
                exact hI.rest tt v hv' fun j o' ho' hd => absurd hd (hw' j o' ho')
            -- its guard
            obtain ⟨os0, vg, hgd, hvg⟩ := g2.guard
            have hwant : Region.wanted o (yielded ops a1.tmps) = t.g := guardB_sound (N := N) (ι := ι1) hgd hvg hI.size fun j want oj d v hgj hoj hdj hl => by
              refine hlook d ?_ v hl
              unfold tmpsOf
              rw [hgj]
              simp only [List.mem_append]
              right
              rw [nth_eq, (hidx j oj).2 hoj]
              simp [hdj]
            -- its operands
            have hops : EnvOk ι1 (onlyE (opTmps o.op) t.e) a1.eval := by
              intro x v hx
              cases x with
              | tmp tt =>
                simp only [evx] at hx
                rw [look_onlyE] at hx
                split at hx
                · rename_i hmem
                  exact (hlook tt (by unfold tmpsOf; simp only [List.mem_append]; exact .inl hmem) v hx).2
                · cases hx
              | const c =>
                simp only [evx] at hx
                cases hp : plain c with
                | true => rw [hp] at hx; cases hx; exact vr_plain hp
                | false => rw [hp] at hx; cases hx
              | func f => cases hx; exact .func (.func f) .nil .nil
              | global g => cases hx
            -- the new list
            have hset : ∀ j, (listed.setIfInBounds i true).getD j false = if j = i then true else listed.getD j false := by
              intro j
              by_cases hj : j = i
              · subst hj; rw [if_pos rfl]; simp [hltl]
              · rw [if_neg hj, getD_set_ne false (Ne.symm hj)]
            have hcnt : cnt (fun e => (listed.setIfInBounds i true).getD e false) E = if i ∈ E then cnt (fun e => listed.getD e false) E + 1 else cnt (fun e => listed.getD e false) E :=
              cnt_set hsort (fun e he => by show (listed.setIfInBounds i true).getD e false = _; rw [hset, if_neg he]) hnl (by show (listed.setIfInBounds i true).getD i false = true; rw [hset, if_pos rfl])
            have hcount : ops.size ≤ fuel + ((listed.setIfInBounds i true).toList.filter id).length := by
              have hl2 : ((listed.setIfInBounds i true).toList.filter id).length = (listed.toList.filter id).length + 1 := by
                rw [Array.toList_setIfInBounds]
                have hl3 : listed.toList[i]? = some false := by
                  rw [Array.getD_eq_getD_getElem?, Array.getElem?_eq_getElem hltl] at hnl
                  simp at hnl
                  simp [hltl, hnl]
                exact filter_set listed.toList i hl3
              omega
            have hEop : ∀ e ∈ E, ∃ o, ops[e]? = some o ∧ e < ops.size := fun e he => by
              obtain ⟨oe, hoe, _⟩ := (hmemE e).1 he
              exact ⟨oe, hoe, (Array.getElem?_eq_some_iff.1 hoe).1⟩
            have hpairG : ∀ a ∈ E, ∀ b ∈ E, a < b → anc M a b = true ∨ fl = some b := by
              intro a ha b hb hlt'
              obtain ⟨x, hx⟩ := List.getElem?_of_mem ha
              obtain ⟨y, hy⟩ := List.getElem?_of_mem hb
              rcases Nat.lt_trichotomy x y with hh | hh | hh
              · exact hpair x y a b hh hx hy
              · subst hh; rw [hx] at hy; cases hy; omega
              · have := hsort y x b a hh hy hx; omega
            -- effects behind the early one wait
            have hwait : ∀ x, fl = some x → ∀ e0 ∈ E, e0 < x → listed.getD e0 false = false → ∀ e ∈ E, x < e → listed.getD e false = false := by
              intro x hx e0 h1 h2 h3 e he hlt'
              cases hl : listed.getD e false with
              | false => rfl
              | true =>
                exfalso
                rcases hpairG x (hfloat x hx).1 e he hlt' with h4 | h4
                · obtain ⟨oe, hoe, hoz⟩ := hEop e he
                  have h5 := (hfloat x hx).2 e hoz h4 e0 h1 h2
                  have := hup e e0 oe hoz (.inr hl) hoe h5
                  rw [h3] at this; cases this
                · rw [hx] at h4; cases h4; omega
            obtain ⟨c, hc0, hc1, H, hH1, hH2⟩ : ∃ c, (earlyB fl E listed = false → c = cnt (fun e => listed.getD e false) E) ∧ (earlyB fl E listed = true → c + 1 = cnt (fun e => listed.getD e false) E) ∧ ∃ H, HS[c]? = some H ∧ RH ι1 H w1 := by
              cases he : earlyB fl E listed with
              | false =>
                obtain ⟨H, a1, a2, _⟩ := hI.heap0 he
                exact ⟨_, fun _ => rfl, fun h => (by cases h), H, a1, a2⟩
              | true =>
                obtain ⟨H, p, a1, a2, _⟩ := hI.heap1 he
                obtain ⟨x, hx, hxl, _⟩ := early_true he
                have : 0 < cnt (fun e => listed.getD e false) E := by
                  have := cnt_lt (p := fun _ => false) (q := fun e => listed.getD e false) (E := E) (fun _ _ h => by cases h) ⟨x, (hfloat x hx).1, hxl, rfl⟩
                  omega
                exact ⟨cnt (fun e => listed.getD e false) E - 1, fun h => (by cases h), fun _ => by omega, H, a1, a2⟩
            have hkeff : i ∈ E → (fl = some i → ∀ e ∈ E, e < i → listed.getD e false = true) → c = cnt (fun e => Nat.blt e i) E := by
              intro hiE hfi
              have hlo : ∀ e ∈ E, e < i → listed.getD e false = true := by
                intro e he hlt'
                rcases hpairG e he i hiE hlt' with h4 | h4
                · exact hup1 e h4
                · exact hfi h4 e he hlt'
              have hhi : ∀ e ∈ E, i < e → fl ≠ some e → listed.getD e false = false := by
                intro e he hlt' hne
                rcases hpairG i hiE e he hlt' with h4 | h4
                · obtain ⟨oe, hoe, _⟩ := hEop e he
                  cases hl : listed.getD e false with
                  | false => rfl
                  | true => have := hdn e oe hoe hl; rw [h4] at this; cases this
                · exact absurd h4 hne
              have hblt : ∀ e, Nat.blt e i = false ↔ ¬ e < i := fun e => by
                cases hb : Nat.blt e i with
                | false => exact ⟨fun _ hh => (by rw [blt_iff.2 hh] at hb; cases hb), fun _ => rfl⟩
                | true => exact ⟨fun hh => (by cases hh), fun hh => absurd (blt_iff.1 hb) hh⟩
              cases hearly : earlyB fl E listed with
              | false =>
                rw [hc0 hearly]
                refine cnt_congr fun e he => ?_
                rcases Nat.lt_trichotomy e i with hh | hh | hh
                · rw [hlo e he hh]; exact (blt_iff.2 hh).symm
                · subst hh; rw [hnl]; exact ((hblt e).2 (by omega)).symm
                · rw [(hblt e).2 (by omega)]
                  by_cases hfe : fl = some e
                  · cases hl : listed.getD e false with
                    | false => rfl
                    | true =>
                      rw [hfe] at hearly
                      rw [early_of hl hiE hh hnl] at hearly; cases hearly
                  · exact hhi e he hh hfe
              | true =>
                obtain ⟨x, hx, hxl, e0, he0, hlt0, hn0⟩ := early_true hearly
                have hxi : i < x := by
                  rcases Nat.lt_trichotomy x i with hh | hh | hh
                  · rcases hpairG x (hfloat x hx).1 i hiE hh with h4 | h4
                    · have := hnoanc x hx hearly; rw [h4] at this; cases this
                    · rw [hx] at h4; cases h4; omega
                  · subst hh; rw [hnl] at hxl; cases hxl
                  · exact hh
                have h5 : cnt (fun e => listed.getD e false) E = cnt (fun e => Nat.blt e i || Nat.beq e x) E := cnt_congr fun e he => by
                  by_cases hex : e = x
                  · subst hex; simp [hxl]
                  · have hb : Nat.beq e x = false := by
                      cases hb : Nat.beq e x with
                      | false => rfl
                      | true => exact absurd (Nat.eq_of_beq_eq_true hb) hex
                    rw [hb, Bool.or_false]
                    rcases Nat.lt_trichotomy e i with hh | hh | hh
                    · rw [hlo e he hh]; exact (blt_iff.2 hh).symm
                    · subst hh; rw [hnl]; exact ((hblt e).2 (by omega)).symm
                    · rw [(hblt e).2 (by omega)]
                      exact hhi e he hh fun h => hex (by rw [hx] at h; cases h; rfl)
                have h6 := cnt_set (p := fun e => Nat.blt e i) (q := fun e => Nat.blt e i || Nat.beq e x) (i := x) hsort (fun e he => by
                  have hb : Nat.beq e x = false := by
                    cases hb : Nat.beq e x with
                    | false => rfl
                    | true => exact absurd (Nat.eq_of_beq_eq_true hb) he
                  show (Nat.blt e i || Nat.beq e x) = Nat.blt e i
                  rw [hb, Bool.or_false]) ((hblt x).2 (by omega)) (by simp)
                rw [if_pos (hfloat x hx).1] at h6
                have h7 := hc1 hearly
                rw [h5, h6] at h7
                omega
            have hheq : i ∈ E → (fl = some i → ∀ e ∈ E, e < i → listed.getD e false = true) → H = t.H := by
              intro hiE hfi
              have := hhs i (by omega)
              rw [← hkeff hiE hfi, hH1] at this
              cases this
              exact (hheap i t g1).symm
            have hnextE : i ∈ E → (fl = some i → ∀ e ∈ E, e < i → listed.getD e false = true) → HS[c + 1]? = some t.H' := by
              intro hiE hfi
              rw [hkeff hiE hfi]
              obtain ⟨x, hx⟩ := List.getElem?_of_mem hiE
              rw [cnt_lt_sorted hsort x i hx, ← hHS]
              simp only [List.getElem?_cons_succ]
              exact pickH_get hEn x i t hx g1
            have hlE : ∀ e, e ≠ i → (listed.setIfInBounds i true).getD e false = listed.getD e false := fun e he => by rw [hset, if_neg he]
            have hli : (listed.setIfInBounds i true).getD i false = true := by rw [hset, if_pos rfl]
            have hput : ∀ (v' : Value) (d : Nat), (∀ (o' : Oper), ∀ j, ops[j]? = some o' → o'.dst = some d → j ≠ i) → o.dst ≠ some d → (a1.put o.dst v').tmps.getD d undef = a1.tmps.getD d undef := by
              intro v' d _ hne
              cases hdo' : o.dst with
              | none => rfl
              | some d0 =>
                have hd0N : d0 < N := by
                  obtain ⟨q1', _⟩ := ewr (i + 1) (by omega)
                  exact (q1' i d0 o (by omega) ho hdo').2
                rw [tmps_put hI.size hd0N, if_neg fun e => hne (by rw [hdo', e])]
            have hdst : ∀ (j : Nat) (o' : Oper) (d : Nat), j ≠ i → ops[j]? = some o' → o'.dst = some d → o.dst ≠ some d := by
              intro j o' d hji ho' hd' hd2
              rcases Nat.lt_trichotomy i j with hh | hh | hh
              · exact absurd hd' (hek.once d hd2 j o' hh ((hidx j o').2 ho'))
              · exact hji hh.symm
              · exact absurd hd2 ((each j o' ho').once d hd' i o hh ((hidx i o).2 ho))
            have hdown : ∀ (j : Nat) (o' : Oper), (listed.setIfInBounds i true).getD j false = true → ops[j]? = some o' → ∀ e ∈ o'.after, Region.binds .any e = true → (listed.setIfInBounds i true).getD e.on false = true := by
              intro j o' hj ho' e he hb
              rw [hset] at hj ⊢
              by_cases hji : j = i
              · subst hji
                rw [ho] at ho'; cases ho'
                have := hdeps e (by simpa using he) hb
                split
                · rfl
                · exact this
              · rw [if_neg hji] at hj
                have := hI.down j o' hj ho' e he hb
                split
                · rfl
                · exact this
            have hrest : ∀ (v' : Value) (ι2 : List Place), Sub ι1 ι2 → ∀ (tt : Nat) (v : Value), look tt s.tm = some v → (∀ (j : Nat) (o' : Oper), ops[j]? = some o' → o'.dst = some tt → (listed.setIfInBounds i true).getD j false = false) → tt < N ∧ VR ι2 v ((a1.put o.dst v').tmps.getD tt undef) := by
              intro v' ι2 hsub tt v hv' hnw
              have hnw' : ∀ (j : Nat) (o' : Oper), ops[j]? = some o' → o'.dst = some tt → listed.getD j false = false := by
                intro j o' ho' hd'
                have := hnw j o' ho' hd'
                rw [hset] at this
                split at this
                · cases this
                · exact this
              obtain ⟨k1, k2⟩ := hI.rest tt v hv' hnw'
              have hne : o.dst ≠ some tt := fun h => by
                have := hnw i o ho h
                rw [hli] at this; cases this
              exact ⟨k1, by rw [hput v' tt (fun o' j ho' hd' hji => by subst hji; rw [ho] at ho'; cases ho'; exact hne hd') hne]; exact k2.mono hsub⟩
            have hdone : ∀ (v' : Value) (ι2 : List Place), Sub ι1 ι2 → ∀ (j : Nat) (o' : Oper) (d : Nat), j ≠ i → ops[j]? = some o' → o'.dst = some d → (listed.setIfInBounds i true).getD j false = true → (fl = some j → earlyB fl E listed = false) → d < N ∧ VR ι2 (V j) ((a1.put o.dst v').tmps.getD d undef) := by
              intro v' ι2 hsub j o' d hji ho' hd' hj hfj
              rw [hlE j hji] at hj
              obtain ⟨k1, k2⟩ := hI.done j o' d ho' hd' hj hfj
              have hne := hdst j o' d hji ho' hd'
              exact ⟨k1, by rw [hput v' d (fun o2 j2 ho2 hd2 hji2 => by subst hji2; rw [ho] at ho2; cases ho2; exact hne hd2) hne]; exact k2.mono hsub⟩
            have hself : ∀ (v' : Value) (ι2 : List Place), VR ι2 t.v v' → ∀ (o' : Oper) (d : Nat), ops[i]? = some o' → o'.dst = some d → d < N ∧ VR ι2 (V i) ((a1.put o.dst v').tmps.getD d undef) := by
              intro v' ι2 hvr o' d ho' hd'
              rw [ho] at ho'; cases ho'
              have hdN : d < N := by
                obtain ⟨q1', _⟩ := ewr (i + 1) (by omega)
                exact (q1' i d o (by omega) ho hd').2
              rw [hd', tmps_put hI.size hdN, if_pos rfl]
              exact ⟨hdN, by rw [hV i t g1]; exact hvr⟩
            -- behind the operation
            have next : ∀ (v' : Value) (ι2 : List Place) (w2 : World) (H2 : Heap), VR ι2 t.v v' → Ext ι1 H w1 ι2 H2 w2 → (i ∈ E → HS[c + 1]? = some H2) → (i ∉ E → H2 = H) → (fl = some i → ∀ e ∈ E, e < i → listed.getD e false = true) →
                wpAny P .any ops Q fuel (listed.setIfInBounds i true) (a1.put o.dst v') w2 := by
              intro v' ι2 w2 H2 hvr hext hE2 hN2 hfi
              have hpre2 : ∃ l, ι2 = ι ++ l := by
                obtain ⟨l, rfl⟩ := hI.pre
                obtain ⟨m, rfl⟩ := hext.pre
                exact ⟨l ++ m, by simp⟩
              cases hearly : earlyB fl E listed with
              | false =>
                have hne2 : earlyB fl E (listed.setIfInBounds i true) = false := by
                  cases he2 : earlyB fl E (listed.setIfInBounds i true) with
                  | false => rfl
                  | true =>
                    exfalso
                    obtain ⟨x, hx, hxl, e, he, hex, hen⟩ := early_true he2
                    have hei : e ≠ i := fun h => by subst h; rw [hli] at hen; cases hen
                    rw [hlE e hei] at hen
                    by_cases hxi : x = i
                    · subst hxi
                      rw [hfi hx e he hex] at hen; cases hen
                    · rw [hlE x hxi] at hxl
                      rw [hx, early_of hxl he hex hen] at hearly; cases hearly
                obtain ⟨H0, b1, b2, b3⟩ := hI.heap0 hearly
                have hHH : H0 = H := by rw [← hc0 hearly, hH1] at b1; cases b1; rfl
                subst hHH
                refine ihf _ ι2 _ w2 ⟨by rw [size_put]; exact hI.size, by rw [defers_put]; exact hI.defers, by simp [hI.lsize], hdown, hpre2, fun _ => ⟨H2, ?_, hext.rh, b3.trans hext⟩, fun h => (by rw [hne2] at h; cases h), ?_, hrest v' ι2 hext.sub⟩ hcount
                · rw [hcnt, ← hc0 hearly]
                  by_cases hiE : i ∈ E
                  · rw [if_pos hiE]; exact hE2 hiE
                  · rw [if_neg hiE, hN2 hiE]; exact hH1
                · intro j o' d ho' hd' hj _
                  by_cases hji : j = i
                  · subst hji; exact hself v' ι2 hvr o' d ho' hd'
                  · exact hdone v' ι2 hext.sub j o' d hji ho' hd' hj fun _ => hearly
              | true =>
                obtain ⟨x, hx, hxl, e0, he0, hlt0, hn0⟩ := early_true hearly
                have hxi : x ≠ i := fun h => by subst h; rw [hnl] at hxl; cases hxl
                obtain ⟨H0, p, b1, b2, b3, b4⟩ := hI.heap1 hearly
                have hcc := hc1 hearly
                have hHH : H0 = H := by rw [← hcc, Nat.add_sub_cancel, hH1] at b1; cases b1; rfl
                subst hHH
                obtain ⟨ox, tx, c1, c2, c3, c4, c5, c6, c7, _⟩ := hfx x hx
                have hcx : c < cnt (fun e => Nat.blt e x) E := by
                  have h1 := cnt_lt (p := fun e => listed.getD e false && !(Nat.beq e x)) (q := fun e => Nat.blt e x) (E := E) (fun e he hp => by
                    simp only [Bool.and_eq_true, Bool.not_eq_true'] at hp
                    rcases Nat.lt_trichotomy e x with hh | hh | hh
                    · exact blt_iff.2 hh
                    · subst hh; simp at hp
                    · rw [hwait x hx e0 he0 hlt0 hn0 e he hh] at hp; cases hp.1) ⟨e0, he0, blt_iff.2 hlt0, by rw [hn0]; rfl⟩
                  have h2 := cnt_set (p := fun e => listed.getD e false && !(Nat.beq e x)) (q := fun e => listed.getD e false) (i := x) hsort (fun e he => by
                    have hb : Nat.beq e x = false := by
                      cases hb : Nat.beq e x with
                      | false => rfl
                      | true => exact absurd (Nat.eq_of_beq_eq_true hb) he
                    show listed.getD e false = (listed.getD e false && !(Nat.beq e x))
                    rw [hb]; simp) (by simp) hxl
                  rw [if_pos (hfloat x hx).1] at h2
                  omega
                obtain ⟨A, B, d1, d2, d3, d4⟩ := heapsOk_spec c7 c hcx
                rw [hH1] at d1; cases d1
                have hro : keepsRO H0 H2 = true := by
                  by_cases hiE : i ∈ E
                  · have := hE2 hiE; rw [d2] at this; cases this; exact d4
                  · rw [hN2 hiE]; exact keepsRO_refl _
                have hx2 := Ext.behind hI.pre hH2.len b3 hfo hff hro hext
                have hpend : ∀ (o' : Oper) (d : Nat), ops[x]? = some o' → o'.dst = some d → d < N ∧ VR (ι2 ++ [p]) (mv ι2.length (V x)) ((a1.put o.dst v').tmps.getD d undef) := by
                  intro o' d ho' hd'
                  obtain ⟨k1, k2⟩ := b4 x o' d hx ho' hd'
                  have hne := hdst x o' d hxi ho' hd'
                  refine ⟨k1, ?_⟩
                  rw [hput v' d (fun o2 j2 ho2 hd2 hji2 => by subst hji2; rw [ho] at ho2; cases ho2; exact hne hd2) hne]
                  exact mv_vr (by rw [hV x tx c2]; exact c4) k2
                cases hearly2 : earlyB fl E (listed.setIfInBounds i true) with
                | true =>
                  refine ihf _ ι2 _ w2 ⟨by rw [size_put]; exact hI.size, by rw [defers_put]; exact hI.defers, by simp [hI.lsize], hdown, hpre2, fun h => (by rw [hearly2] at h; cases h), fun _ => ⟨H2, p, ?_, hext.rh, hx2, fun x' o' d hx' ho' hd' => by rw [hx] at hx'; cases hx'; exact hpend o' d ho' hd'⟩, ?_, hrest v' ι2 hext.sub⟩ hcount
                  · rw [hcnt, ← hcc]
                    by_cases hiE : i ∈ E
                    · rw [if_pos hiE]; exact hE2 hiE
                    · rw [if_neg hiE, hN2 hiE]; exact hH1
                  · intro j o' d ho' hd' hj hfj
                    by_cases hji : j = i
                    · subst hji; exact hself v' ι2 hvr o' d ho' hd'
                    · exact hdone v' ι2 hext.sub j o' d hji ho' hd' hj fun hf => (by have := hfj hf; rw [hearly2] at this; cases this)
                | false =>
                  have hxl2 : (listed.setIfInBounds i true).getD x false = true := by rw [hlE x hxi]; exact hxl
                  have hall2 : ∀ e ∈ E, e < x → (listed.setIfInBounds i true).getD e false = true := by
                    intro e he hex
                    cases hl : (listed.setIfInBounds i true).getD e false with
                    | true => rfl
                    | false => rw [hx, early_of hxl2 he hex hl] at hearly2; cases hearly2
                  have hiE : i ∈ E := by
                    by_cases hiE : i ∈ E
                    · exact hiE
                    · have := hall2 e0 he0 hlt0
                      rw [hlE e0 fun h => hiE (h ▸ he0), hn0] at this; cases this
                  have hxs : x < ops.size := (Array.getElem?_eq_some_iff.1 c1).1
                  have hcnt2 : cnt (fun e => (listed.setIfInBounds i true).getD e false) E = cnt (fun e => Nat.blt e (x + 1)) E := cnt_congr fun e he => by
                    rcases Nat.lt_trichotomy e x with hh | hh | hh
                    · rw [hall2 e he hh]; exact (blt_iff.2 (by omega)).symm
                    · subst hh; rw [hxl2]; exact (blt_iff.2 (by omega)).symm
                    · have hb : Nat.blt e (x + 1) = false := by
                        cases hb : Nat.blt e (x + 1) with
                        | false => rfl
                        | true => have := blt_iff.1 hb; omega
                      rw [hb]
                      by_cases hei : e = i
                      · exfalso
                        subst hei
                        rcases hpairG x (hfloat x hx).1 e he hh with h4 | h4
                        · have := hnoanc x hx hearly; rw [h4] at this; cases this
                        · rw [hx] at h4; cases h4; omega
                      · rw [hlE e hei]; exact hwait x hx e0 he0 hlt0 hn0 e he hh
                  have hcx1 : cnt (fun e => Nat.blt e (x + 1)) E = cnt (fun e => Nat.blt e x) E + 1 := by
                    have := cnt_set (p := fun e => Nat.blt e x) (q := fun e => Nat.blt e (x + 1)) (i := x) hsort (fun e he => by
                      show Nat.blt e (x + 1) = Nat.blt e x
                      cases h1 : Nat.blt e x with
                      | true => exact blt_iff.2 (by have := blt_iff.1 h1; omega)
                      | false =>
                        cases h2 : Nat.blt e (x + 1) with
                        | false => rfl
                        | true =>
                          have h3 := blt_iff.1 h2
                          have : Nat.blt e x = true := blt_iff.2 (by omega)
                          rw [this] at h1; cases h1)
                      (by cases hb : Nat.blt x x with
                          | false => rfl
                          | true => have := blt_iff.1 hb; omega) (blt_iff.2 (by omega))
                    rw [if_pos (hfloat x hx).1] at this
                    exact this
                  have hcc2 : c + 1 = cnt (fun e => Nat.blt e x) E := by
                    rw [if_pos hiE, ← hcc] at hcnt
                    rw [hcnt2, hcx1] at hcnt
                    omega
                  have hHx : HS[c + 1]? = some tx.H := by
                    rw [hcc2, hhs x (by omega), hheap x tx c2]
                  have hH2x : H2 = tx.H := by have := hE2 hiE; rw [hHx] at this; cases this; rfl
                  have hHx1 : HS[cnt (fun e => (listed.setIfInBounds i true).getD e false) E]? = some (H2 ++ [some fb]) := by
                    obtain ⟨ty, f1, _, _, f4⟩ := tr x ox c1
                    rw [c2] at f1; cases f1
                    rw [hcnt2, hhs (x + 1) (by omega), f4, c6, hH2x]
                  have hsub2 : Sub ι2 (ι2 ++ [p]) := fun _ _ h => snoc_up h
                  refine ihf _ (ι2 ++ [p]) _ w2 ⟨by rw [size_put]; exact hI.size, by rw [defers_put]; exact hI.defers, by simp [hI.lsize], hdown, by obtain ⟨l, rfl⟩ := hpre2; exact ⟨l ++ [p], by simp⟩, fun _ => ⟨_, hHx1, hx2.rh, hx2⟩, fun h => (by rw [hearly2] at h; cases h), ?_, hrest v' _ (fun b q h => hsub2 b q (hext.sub b q h))⟩ hcount
                  intro j o' d ho' hd' hj _
                  by_cases hji : j = i
                  · subst hji
                    obtain ⟨k1, k2⟩ := hself v' ι2 hvr o' d ho' hd'
                    exact ⟨k1, k2.mono hsub2⟩
                  · by_cases hjx : j = x
                    · subst hjx
                      obtain ⟨k1, k2⟩ := hpend o' d ho' hd'
                      refine ⟨k1, ?_⟩
                      rw [hext.rh.len, hH2x, hV j tx c2, ← c5, ← hV j tx c2] at k2
                      exact k2
                    · obtain ⟨k1, k2⟩ := hdone v' ι2 hext.sub j o' d hji ho' hd' hj fun hf => absurd (by rw [hx] at hf; cases hf; rfl) hjx
                      exact ⟨k1, k2.mono hsub2⟩
            by_cases hFi : fl = some i ∧ ∃ e ∈ E, e < i ∧ listed.getD e false = false
            · -- the allocation comes early
              obtain ⟨hfi, e0, he0, hlt0, hn0⟩ := hFi
              obtain ⟨ox, tx, c1, c2, c3, c4, c5, c6, c7, fc, c8, c9⟩ := hfx i hfi
              rw [ho] at c1; cases c1
              rw [g1] at c2; cases c2
              have hne : earlyB fl E listed = false := by
                cases he : earlyB fl E listed with
                | false => rfl
                | true =>
                  obtain ⟨x, hx, hxl, _⟩ := early_true he
                  rw [hfi] at hx; cases hx
                  rw [hnl] at hxl; cases hxl
              have hcl := hc0 hne
              have hlt' : c < cnt (fun e => Nat.blt e i) E := by
                rw [hcl]
                refine cnt_lt (fun e he hl => ?_) ⟨e0, he0, blt_iff.2 hlt0, hn0⟩
                rcases Nat.lt_trichotomy e i with hh | hh | hh
                · exact blt_iff.2 hh
                · subst hh; rw [hnl] at hl; cases hl
                · rw [hwait i hfi e0 he0 hlt0 hn0 e he hh] at hl; cases hl
              have hlo : cnt (fun e => anc M e i) E ≤ c := by
                rw [hcl]
                exact cnt_le fun e _ hp => hup1 e hp
              obtain ⟨r, r1, r2, r3, r4⟩ := floatAll_spec c8 c9 c H hH1 (by omega) (by omega)
              unfold wpOp
              rw [ho]
              simp only
              rw [hwant, c3, if_pos rfl]
              left
              have r1' : evOp P o.op (onlyE (opTmps o.op) t.e) H t.os = some r := by
                rw [evOp_onlyE P o.op _ (fun _ h => h)]; exact r1
              refine (evOp_sound r1' r4 hops hH2).wp fun ι2 v' w2 hvr hext => ?_
              rw [r3] at hext
              rw [r2] at hvr
              obtain ⟨l, hl⟩ := hext.pre
              have hlen := hext.rh.len
              have hlen1 := hH2.len
              subst hl
              have hl1 : l.length = 1 := by simp at hlen; omega
              obtain ⟨p, rfl⟩ : ∃ p, l = [p] := by
                match l, hl1 with
                | [p], _ => exact ⟨p, rfl⟩
              obtain ⟨A, B, d1, _, d3, _⟩ := heapsOk_spec c7 c hlt'
              rw [hH1] at d1; cases d1
              have hearly2 : earlyB fl E (listed.setIfInBounds i true) = true := by
                rw [hfi]
                exact early_of hli he0 hlt0 (by rw [hlE e0 (by omega)]; exact hn0)
              obtain ⟨H0, b1, b2, b3⟩ := hI.heap0 hne
              have hHH : H0 = H := by rw [← hcl, hH1] at b1; cases b1; rfl
              subst hHH
              refine ihf _ ι1 _ w2 ⟨by rw [size_put]; exact hI.size, by rw [defers_put]; exact hI.defers, by simp [hI.lsize], hdown, hI.pre, fun h => (by rw [hearly2] at h; cases h), fun _ => ⟨H0, p, ?_, hext.rh.init (by rw [hlen1]; exact d3), b3.trans hext, fun x' o' d hx' ho' hd' => ?_⟩, ?_, hrest v' ι1 (fun _ _ h => h)⟩ hcount
              · rw [hcnt, if_pos (hfloat i hfi).1, Nat.add_sub_cancel, ← hcl]; exact hH1
              · rw [hfi] at hx'; cases hx'
                rw [ho] at ho'; cases ho'
                have hdN : d < N := by
                  obtain ⟨q1', _⟩ := ewr (i + 1) (by omega)
                  exact (q1' i d o (by omega) ho hd').2
                rw [hd', tmps_put hI.size hdN, if_pos rfl]
                exact ⟨hdN, by rw [hV i t g1, hlen1]; exact hvr⟩
              · intro j o' d ho' hd' hj hfj
                by_cases hji : j = i
                · subst hji
                  have := hfj hfi
                  rw [hearly2] at this; cases this
                · exact hdone v' ι1 (fun _ _ h => h) j o' d hji ho' hd' hj fun _ => hne
            · have hfi : fl = some i → ∀ e ∈ E, e < i → listed.getD e false = true := by
                intro h e he hlt'
                cases hl : listed.getD e false with
                | true => rfl
                | false => exact absurd ⟨h, e, he, hlt', hl⟩ hFi
              unfold wpOp
              rw [ho]
              simp only
              rw [hwant]
              cases hg : t.g with
              | false =>
                rw [if_neg (by simp)]
                obtain ⟨s1, s2'⟩ := g2.skip hg
                refine next undef ι1 w1 H (by rw [s1]; exact vr_undef) (Ext.refl hH2) (fun hiE => ?_) (fun _ => rfl) hfi
                have := hnextE hiE hfi
                rw [s2', ← hheq hiE hfi] at this
                exact this
              | true =>
                rw [if_pos rfl]
                left
                obtain ⟨r, r1, r2, r3, r4⟩ := g2.run hg
                by_cases hiE : i ∈ E
                · have r1' : evOp P o.op (onlyE (opTmps o.op) t.e) H t.os = some r := by
                    rw [evOp_onlyE P o.op _ (fun _ h => h), hheq hiE hfi]; exact r1
                  refine (evOp_sound r1' r4 hops hH2).wp fun ι2 v' w2 hvr hext => ?_
                  rw [r3] at hext
                  rw [r2] at hvr
                  exact next v' ι2 w2 t.H' hvr hext (fun _ => hnextE hiE hfi) (fun h => absurd hiE h) hfi
                · have hsame : ∃ r' : Res, evOp P o.op t.e H t.os = some r' ∧ r'.v = t.v ∧ r'.hp = H ∧ AllP r'.vc := by
                    cases hrd' : (isRead o.op || isQuiet qm i o) with
                    | false =>
                      have he : isEff o.op = false := by
                        cases he : isEff o.op with
                        | false => rfl
                        | true => rw [hquiet i o ho hiE he, Bool.or_true] at hrd'; cases hrd'
                      have hr0 : isRead o.op = false := by
                        cases hr0 : isRead o.op with
                        | false => rfl
                        | true => rw [hr0] at hrd'; cases hrd'
                      exact ⟨_, evOp_pure he hr0 r1 H, r2, rfl, r4⟩
                    | true =>
                      obtain ⟨e0, aa, e1, e2⟩ := hreads i o t ((hidx i o).2 ho) g1 (by rw [Nat.zero_add]; exact hrd') hg
                      rw [Nat.zero_add] at e1
                      by_cases hown : c = cnt (fun e => Nat.blt e i) E
                      · have := hhs i (by omega)
                        rw [← hown, hH1] at this
                        cases this
                        rw [← hheap i t g1]
                        refine ⟨r, r1, r2, ?_, r4⟩
                        cases he : isEff o.op with
                        | false => exact evOp_quiet he r1
                        | true => rw [r3]; exact e0 he
                      · have hclo : cnt (fun e => anc M e i) E ≤ c := by
                          cases hearly : earlyB fl E listed with
                          | false => rw [hc0 hearly]; exact cnt_le fun e _ hp => hup1 e hp
                          | true =>
                            obtain ⟨x, hx, hxl, _⟩ := early_true hearly
                            have h1 := cnt_lt (p := fun e => anc M e i) (q := fun e => listed.getD e false) (E := E) (fun e _ hp => hup1 e hp) ⟨x, (hfloat x hx).1, hxl, hnoanc x hx hearly⟩
                            have h2 := hc1 hearly
                            omega
                        have hchi : c ≤ cnt (fun e => !anc M i e) E := by
                          have h1 : cnt (fun e => listed.getD e false) E ≤ cnt (fun e => !anc M i e) E := cnt_le fun e he' hp => by
                            obtain ⟨oe, hoe, _⟩ := (hmemE e).1 he'
                            rw [hdn e oe hoe hp]; rfl
                          cases hearly : earlyB fl E listed with
                          | false => rw [hc0 hearly]; exact h1
                          | true => have := hc1 hearly; omega
                        obtain ⟨r', k1, k2, k3, k4⟩ := readAll_spec e1 e2 c H hH1 (by rw [Nat.zero_add]; exact hown) (by rw [Nat.zero_add]; exact hclo) (by rw [Nat.zero_add]; exact hchi)
                        refine ⟨r', k1, k2, ?_, k4⟩
                        cases he : isEff o.op with
                        | false => exact evOp_quiet he k1
                        | true => exact k3 he
                  obtain ⟨r', r1', r2', hh, r4'⟩ := hsame
                  have r1'' : evOp P o.op (onlyE (opTmps o.op) t.e) H t.os = some r' := by
                    rw [evOp_onlyE P o.op _ (fun _ h => h)]; exact r1'
                  refine (evOp_sound r1'' r4' hops hH2).wp fun ι2 v' w2 hvr hext => ?_
                  rw [hh] at hext
                  rw [r2'] at hvr
                  exact next v' ι2 w2 H hvr hext (fun h => absurd h hiE) (fun _ => rfl) hfi
        have hd1 : Drawn w { w with drawn := w.drawn + 1 } := ⟨1, rfl⟩
        refine main ops.size _ ι a _ ⟨hr.size, hr.defers, by simp, ?_, ⟨[], by simp⟩, fun _ => ⟨s.hp, ?_, hr.rh.drawn hd1, Ext.drawn hr.rh hd1⟩, fun h => ?_, ?_, fun t v ht _ => hr.env t v ht⟩ (by omega)
        · intro i o hl
          rw [getD_rep] at hl; cases hl
        · rw [cnt_none (fun e _ => getD_rep ..), ← hHS]; rfl
        · obtain ⟨x, _, hx, _⟩ := early_true h
          rw [getD_rep] at hx; cases hx
        · intro j o d _ _ hl
          rw [getD_rep] at hl; cases hl
      · cases h
    · cases h

end
end Go.Sim
end

section
namespace Go.Sim
open Go

/-! ### A state taken as another

'm' names for each block of the state looked for the block of the state that is there; 'none': a block of no rows, of nobody's. -/

def isOf (m : List (Option Nat)) (b' b : Nat) : Bool :=
  match nth m b' with
  | some (some c) => Nat.beq c b
  | _ => false

def fitV0 (m : List (Option Nat)) : Value → Value → Option (List Prop)
  | .pointer (some ⟨b, i, some j⟩), .pointer (some ⟨b', i', some j'⟩) => bif isOf m b' b then some [i = i', j = j'] else none
  | .slice (some ⟨b, i, none⟩) l c, .slice (some ⟨b', i', none⟩) l' c' => bif isOf m b' b && ((Nat.beq c 0 || !Nat.beq c' 0) && (Nat.beq c 2 || !Nat.beq c' 2)) then some [i = i', l = l'] else none
  | .slice none 0 0, .slice none 0 0 => some []
  | .slice none 0 0, .slice (some _) l' c' => bif Nat.beq c' 2 then none else some [0 = l']
  | .bool a, .bool b => some [a = b]
  | .int k n, .int k' n' => bif sameI k k' then some [n = n'] else none
  | .float k x, .float k' x' => bif sameF k k' then some [x = x'] else none
  | .complex k x y, .complex k' x' y' => bif sameF k k' then some [x = x', y = y'] else none
  | .string s, .string s' => some [s = s']
  | .pointer none, .pointer none => some []
  | .nilFunc, .nilFunc => some []
  | .tuple ⟨[]⟩, .tuple ⟨[]⟩ => some []
  | _, _ => none

def fitL (f : Value → Value → Option (List Prop)) : List Value → List Value → Option (List Prop)
  | [], [] => some []
  | v :: l, v' :: l' => match f v v', fitL f l l' with
    | some a, some b => some (a ++ b)
    | _, _ => none
  | _, _ => none

def fitV1 (m : List (Option Nat)) : Value → Value → Option (List Prop)
  | .agg ⟨l⟩, .agg ⟨l'⟩ => fitL (fitV0 m) l l'
  | .func fn ⟨f⟩ ⟨c⟩, .func fn' ⟨f'⟩ ⟨c'⟩ => match fitL (fitV0 m) f f', fitL (fitV0 m) c c' with
    | some a, some b => some ((fn = fn') :: (a ++ b))
    | _, _ => none
  | v, v' => fitV0 m v v'

def fitV (m : List (Option Nat)) : Value → Value → Option (List Prop)
  | .tuple ⟨l⟩, .tuple ⟨l'⟩ => fitL (fitV1 m) l l'
  | v, v' => fitV1 m v v'

def fitC (m : List (Option Nat)) : Cont → Cont → Option (List Prop)
  | .fl k xs, .fl k' xs' => bif sameF k k' then some [xs = xs'] else none
  | .it k xs, .it k' xs' => bif sameI k k' then some [xs = xs'] else none
  | .cx k xs, .cx k' xs' => bif sameF k k' then some [xs = xs'] else none
  | .vs l, .vs l' => fitL (fitV1 m) l l'
  | .fn n sz g, .fn n' sz' g' => some [n = n', sz = sz', ∀ i, i < n → g i = g' i]
  | _, _ => none

def noRows : Cont → Option (List Prop)
  | .fl _ xs => some [xs = []]
  | .it _ xs => some [xs = []]
  | .cx _ xs => some [xs = []]
  | .fn n _ _ => some [n = 0]
  | .vs _ => none

def fitH (m : List (Option Nat)) (H : Heap) : List (Option Nat) → Heap → Option (List Prop)
  | [], [] => some []
  | _ :: ms, none :: l => fitH m H ms l
  | none :: ms, some b :: l => match noRows b.c, fitH m H ms l with
    | some a, some r => some (a ++ r)
    | _, _ => none
  | some c :: ms, some b :: l => match blkAt H c with
    | some blk => bif blk.own || !b.own then
        match fitC m blk.c b.c, fitH m H ms l with
        | some a, some r => some (a ++ r)
        | _, _ => none
      else none
    | none => none
  | _, _ => none

def fitE (m : List (Option Nat)) (e : Env) : Env → Option (List Prop)
  | [] => some []
  | (t, v') :: l => match look t e with
    | some v => match fitV m v v', fitE m e l with
      | some a, some r => some (a ++ r)
      | _, _ => none
    | none => none

/-- The blocks of 'm' are named once each. -/
def onceAll : List (Option Nat) → Bool
  | [] => true
  | none :: l => onceAll l
  | some b :: l => !memO b l && onceAll l
where
  memO (b : Nat) : List (Option Nat) → Bool
    | [] => false
    | none :: l => memO b l
    | some c :: l => Nat.beq b c || memO b l

/-- The first 'n' names stay. -/
def isPre : Nat → Nat → List (Option Nat) → Bool
  | 0, _, _ => true
  | n + 1, k, some x :: l => Nat.beq x k && isPre n (k + 1) l
  | _ + 1, _, _ => false

def fit (n0 : Nat) (m : List (Option Nat)) (s s' : St) : Option (List Prop) :=
  bif onceAll m && isPre n0 0 m then
    match fitE m s.tm s'.tm, fitH m s.hp m s'.hp with
    | some a, some b => some (a ++ b)
    | _, _ => none
  else none

/-! ### That it is one -/


theorem isOf_spec {m : List (Option Nat)} {b' b : Nat} (h : isOf m b' b = true) : m[b']? = some (some b) := by
  unfold isOf at h
  rw [nth_eq] at h
  split at h
  · rename_i c hc
    rw [hc, Nat.eq_of_beq_eq_true h]
  · cases h

/-- The places go with the names. -/
def Mapped (ι ι2 : List Place) (m : List (Option Nat)) : Prop :=
  ∀ (k b : Nat) (p : Place), m[k]? = some (some b) → ι[b]? = some p → ι2[k]? = some p

def FitV (f : List (Option Nat) → Value → Value → Option (List Prop)) : Prop :=
  ∀ (ι ι2 : List Place) (m : List (Option Nat)) (v u v' : Value) (vc : List Prop), Mapped ι ι2 m → f m v u = some vc → AllP vc → VR ι v v' → VR ι2 u v'

theorem allP_app {a b : List Prop} (h : AllP (a ++ b)) : AllP a ∧ AllP b := allP_append _ _ h

theorem fitV0_sound : FitV fitV0 := by
  intro ι ι2 m v u v' vc hm h hv hr
  unfold fitV0 at h
  split at h
  · rename_i b i j b' i' j'
    cases hb : isOf m b' b with
    | false => simp [hb] at h
    | true =>
      simp only [hb, cond_true, Option.some.injEq] at h; subst h
      obtain ⟨rfl, rfl, _⟩ := hv
      cases hr with | ptr hp hrb => exact .ptr (hm _ _ _ (isOf_spec hb) hp) hrb
  · rename_i b i l c b' i' l' c'
    cases hb : isOf m b' b with
    | false => simp [hb] at h
    | true =>
      simp only [hb, Bool.true_and] at h
      cases hc : ((Nat.beq c 0 || !Nat.beq c' 0) && (Nat.beq c 2 || !Nat.beq c' 2)) with
      | false => simp [hc] at h
      | true =>
        simp only [hc, cond_true, Option.some.injEq] at h; subst h
        obtain ⟨rfl, rfl, _⟩ := hv
        cases hr with
        | slice hp hrb hl hcap h0 =>
          refine .slice (hm _ _ _ (isOf_spec hb) hp) hrb hl hcap fun hc' => h0 ?_
          subst hc'
          simp only [Bool.and_eq_true] at hc
          simpa using hc.1
        | slice0 hx =>
          refine .slice0 fun h2 => hx ?_
          simp only [Bool.and_eq_true] at hc
          have := hc.2
          rw [h2] at this
          simpa using this
  · cases hr with | nils => exact .nils
  · rename_i c'
    cases hc : Nat.beq c' 2 with
    | true => simp [hc] at h
    | false =>
      simp only [hc, cond_false, Option.some.injEq] at h; subst h
      obtain ⟨rfl, _⟩ := hv
      cases hr with | nils => exact .slice0 fun h2 => (by rw [hc] at h2; cases h2)
  · simp only [Option.some.injEq] at h; subst h
    obtain ⟨rfl, _⟩ := hv
    cases hr; exact .bool _
  · rename_i k n k' n'
    cases hk : sameI k k' with
    | false => simp [hk] at h
    | true =>
      simp only [hk, cond_true, Option.some.injEq] at h; subst h
      obtain ⟨rfl, _⟩ := hv
      cases sameI_eq hk
      cases hr; exact .int _ _
  · rename_i k n k' n'
    cases hk : sameF k k' with
    | false => simp [hk] at h
    | true =>
      simp only [hk, cond_true, Option.some.injEq] at h; subst h
      obtain ⟨rfl, _⟩ := hv
      cases sameF_eq hk
      cases hr with | float a b => exact .float a b
  · rename_i k _ _ k' _ _
    cases hk : sameF k k' with
    | false => simp [hk] at h
    | true =>
      simp only [hk, cond_true, Option.some.injEq] at h; subst h
      obtain ⟨rfl, rfl, _⟩ := hv
      cases sameF_eq hk
      cases hr with | complex a b c d => exact .complex a b c d
  · simp only [Option.some.injEq] at h; subst h
    obtain ⟨rfl, _⟩ := hv
    cases hr; exact .string _
  · cases hr; exact .nilp
  · cases hr; exact .nilFunc
  · cases hr with | tuple h => cases h; exact .tuple .nil
  · cases h

theorem fitL_sound {f : List (Option Nat) → Value → Value → Option (List Prop)} (hf : FitV f) {ι ι2 : List Place} {m : List (Option Nat)} (hm : Mapped ι ι2 m) :
    ∀ {l u l' : List Value} {vc : List Prop}, fitL (f m) l u = some vc → AllP vc → VRs ι l l' → VRs ι2 u l'
  | [], [], l', vc, h, hv, hr => by cases hr; exact .nil
  | [], _ :: _, l', vc, h, hv, hr => by simp [fitL] at h
  | _ :: _, [], l', vc, h, hv, hr => by simp [fitL] at h
  | v :: l, u :: us, l', vc, h, hv, hr => by
    simp only [fitL] at h
    split at h
    · rename_i a b ha hb
      simp only [Option.some.injEq] at h; subst h
      obtain ⟨h1, h2⟩ := allP_app hv
      cases hr with | cons g gs => exact .cons (hf _ _ _ _ _ _ _ hm ha h1 g) (fitL_sound hf hm hb h2 gs)
    · cases h

theorem fitL_length {f : Value → Value → Option (List Prop)} : ∀ {l u : List Value} {vc : List Prop}, fitL f l u = some vc → l.length = u.length
  | [], [], vc, h => rfl
  | [], _ :: _, vc, h => by simp [fitL] at h
  | _ :: _, [], vc, h => by simp [fitL] at h
  | v :: l, u :: us, vc, h => by
    simp only [fitL] at h
    split at h
    · rename_i a b ha hb
      simp [fitL_length hb]
    · cases h

theorem fitL_get {f : Value → Value → Option (List Prop)} : ∀ {l u : List Value} {vc : List Prop}, fitL f l u = some vc → AllP vc → ∀ (j : Nat) (x : Value), l[j]? = some x → ∃ y vc', f x y = some vc' ∧ AllP vc' ∧ u[j]? = some y
  | [], [], vc, h, hv, j, x, hx => by simp at hx
  | [], _ :: _, vc, h, hv, j, x, hx => by simp [fitL] at h
  | _ :: _, [], vc, h, hv, j, x, hx => by simp [fitL] at h
  | v :: l, u :: us, vc, h, hv, j, x, hx => by
    simp only [fitL] at h
    split at h
    · rename_i a b ha hb
      simp only [Option.some.injEq] at h; subst h
      obtain ⟨h1, h2⟩ := allP_app hv
      cases j with
      | zero => simp at hx; subst hx; exact ⟨u, a, ha, h1, rfl⟩
      | succ j => simpa using fitL_get hb h2 j x (by simpa using hx)
    · cases h

theorem fitV1_sound : FitV fitV1 := by
  intro ι ι2 m v u v' vc hm h hv hr
  unfold fitV1 at h
  split at h
  · cases hr with | agg hr => exact .agg (fitL_sound fitV0_sound hm h hv hr)
  · split at h
    · rename_i a b ha hb
      simp only [Option.some.injEq] at h; subst h
      obtain ⟨rfl, hv⟩ := hv
      obtain ⟨h1, h2⟩ := allP_app hv
      cases hr with | func _ hf hc => exact .func _ (fitL_sound fitV0_sound hm ha h1 hf) (fitL_sound fitV0_sound hm hb h2 hc)
    · cases h
  · exact fitV0_sound ι ι2 m v u v' vc hm h hv hr

theorem fitV_sound : FitV fitV := by
  intro ι ι2 m v u v' vc hm h hv hr
  unfold fitV at h
  split at h
  · cases hr with | tuple hr => exact .tuple (fitL_sound fitV1_sound hm h hv hr)
  · exact fitV1_sound ι ι2 m v u v' vc hm h hv hr

/-- A block taken as another. -/
theorem BlkOk.fit {ι ι2 : List Place} {m : List (Option Nat)} (hm : Mapped ι ι2 m) {w : World} {p : Place} {b b' : Blk} {vc : List Prop} (h : BlkOk ι w p b) (hc : fitC m b.c b'.c = some vc) (hv : AllP vc)
    (ho : b'.own = true → b.own = true) : BlkOk ι2 w p b' := by
  have key : b'.c.rows = b.c.rows ∧ b'.c.sz = b.c.sz ∧ ∀ i, i < b.c.rows → (b'.c.row i).length = (b.c.row i).length ∧
      ∀ (j : Nat) (u v : Value), (b.c.row i)[j]? = some u → VR ι u v → ∃ u', (b'.c.row i)[j]? = some u' ∧ VR ι2 u' v := by
    obtain ⟨o, c⟩ := b
    obtain ⟨o', c'⟩ := b'
    have same : ∀ {c : Cont}, (∀ i j u, (c.row i)[j]? = some u → Free u) → c.rows = c.rows ∧ c.sz = c.sz ∧ ∀ i, i < c.rows → (c.row i).length = (c.row i).length ∧
      ∀ (j : Nat) (u v : Value), (c.row i)[j]? = some u → VR ι u v → ∃ u', (c.row i)[j]? = some u' ∧ VR ι2 u' v :=
      fun hf => ⟨rfl, rfl, fun i _ => ⟨rfl, fun j u v hu hv => ⟨u, hu, hv.free (hf i j u hu)⟩⟩⟩
    simp only at hc ⊢
    unfold fitC at hc
    split at hc
    · rename_i k xs k' xs'
      cases hk : sameF k k' with
      | false => simp [hk] at hc
      | true =>
        simp only [hk, cond_true, Option.some.injEq] at hc; subst hc
        obtain ⟨rfl, _⟩ := hv
        cases sameF_eq hk
        refine same fun i j u hu => ?_
        cases j with
        | zero => simp [Cont.row] at hu; subst hu; exact .inr (.inr (.inl ⟨_, _, rfl⟩))
        | succ j => simp [Cont.row] at hu
    · rename_i k xs k' xs'
      cases hk : sameI k k' with
      | false => simp [hk] at hc
      | true =>
        simp only [hk, cond_true, Option.some.injEq] at hc; subst hc
        obtain ⟨rfl, _⟩ := hv
        cases sameI_eq hk
        refine same fun i j u hu => ?_
        cases j with
        | zero => simp [Cont.row] at hu; subst hu; exact .inr (.inl ⟨_, _, rfl⟩)
        | succ j => simp [Cont.row] at hu
    · rename_i k xs k' xs'
      cases hk : sameF k k' with
      | false => simp [hk] at hc
      | true =>
        simp only [hk, cond_true, Option.some.injEq] at hc; subst hc
        obtain ⟨rfl, _⟩ := hv
        cases sameF_eq hk
        refine same fun i j u hu => ?_
        cases j with
        | zero => simp [Cont.row] at hu; subst hu; exact .inr (.inr (.inr (.inl ⟨_, _, _, rfl⟩)))
        | succ j => simp [Cont.row] at hu
    · rename_i l l'
      refine ⟨rfl, by simp [Cont.sz, fitL_length hc], fun i _ => ⟨by simp [Cont.row, fitL_length hc], fun j u v hu hv' => ?_⟩⟩
      obtain ⟨y, vc', h1, h2, h3⟩ := fitL_get hc hv j u hu
      exact ⟨y, h3, fitV1_sound _ _ _ _ _ _ _ hm h1 h2 hv'⟩
    · rename_i n sz g n' sz' g'
      simp only [Option.some.injEq] at hc; subst hc
      obtain ⟨rfl, rfl, hg, _⟩ := hv
      refine ⟨rfl, rfl, fun i hi => ?_⟩
      have hgi := hg i hi
      refine ⟨by simp [Cont.row, hgi], fun j u v hu hv => ⟨u, by simpa [Cont.row, hgi] using hu, hv.free ?_⟩⟩
      simp only [Cont.row, List.getElem?_map, Option.map_eq_some_iff] at hu
      obtain ⟨s, _, rfl⟩ := hu
      exact free_sc s
    · cases hc
  obtain ⟨c1, c2, c3⟩ := key
  refine ⟨by rw [h.sz]; exact c2.symm, fun i hi => ?_, fun i j hi hj => ?_, fun ho' rb hrb => ?_⟩
  · have hi' : i < b.c.rows := by rw [← c1]; exact hi
    rw [(c3 i hi').1, c2]; exact h.len i hi'
  · have hi' : i < b.c.rows := by rw [← c1]; exact hi
    obtain ⟨rb, cs, e, f, v, u, h1, h2, h3, h4, h5, h6⟩ := h.cells i j hi' (by rw [← c2]; exact hj)
    obtain ⟨u', g1, g2⟩ := (c3 i hi').2 j u v h4 h5
    exact ⟨rb, cs, e, f, v, u', h1, h2, h3, g1, g2, h6⟩
  · obtain ⟨h1, h2, h3⟩ := h.own (ho ho') rb hrb
    exact ⟨h1, by rw [c1]; exact h2, h3⟩

theorem onceAll_memO {b : Nat} : ∀ {l : List (Option Nat)}, onceAll.memO b l = false → some b ∉ l
  | [], _ => by simp
  | none :: l, h => by
    simp only [onceAll.memO] at h
    simpa using onceAll_memO h
  | some c :: l, h => by
    simp only [onceAll.memO, Bool.or_eq_false_iff] at h
    simp only [List.mem_cons, Option.some.injEq, not_or]
    exact ⟨fun e => by subst e; simp at h, onceAll_memO h.2⟩

theorem onceAll_spec : ∀ {m : List (Option Nat)}, onceAll m = true → ∀ (i j : Nat) (b c : Nat), m[i]? = some (some b) → m[j]? = some (some c) → i ≠ j → b ≠ c
  | [], _, i, j, b, c, hi, _, _ => by simp at hi
  | none :: l, h, i, j, b, c, hi, hj, hij => by
    simp only [onceAll] at h
    cases i with
    | zero => simp at hi
    | succ i => cases j with
      | zero => simp at hj
      | succ j => exact onceAll_spec h i j b c (by simpa using hi) (by simpa using hj) (by omega)
  | some x :: l, h, i, j, b, c, hi, hj, hij => by
    simp only [onceAll, Bool.and_eq_true, Bool.not_eq_true'] at h
    have hn := onceAll_memO h.1
    cases i with
    | zero =>
      simp at hi; subst hi
      cases j with
      | zero => omega
      | succ j =>
        intro e; subst e
        exact hn (List.mem_of_getElem? (by simpa using hj))
    | succ i => cases j with
      | zero =>
        simp at hj; subst hj
        intro e; subst e
        exact hn (List.mem_of_getElem? (by simpa using hi))
      | succ j => exact onceAll_spec h.2 i j b c (by simpa using hi) (by simpa using hj) (by omega)

theorem isPre_spec : ∀ {n k : Nat} {m : List (Option Nat)}, isPre n k m = true → n ≤ m.length ∧ ∀ i, i < n → m[i]? = some (some (k + i))
  | 0, k, m, _ => ⟨Nat.zero_le _, fun i hi => by omega⟩
  | n + 1, k, [], h => by simp [isPre] at h
  | n + 1, k, none :: l, h => by simp [isPre] at h
  | n + 1, k, some x :: l, h => by
    simp only [isPre, Bool.and_eq_true] at h
    obtain ⟨h1, h2⟩ := isPre_spec h.2
    refine ⟨by simp; omega, fun i hi => ?_⟩
    cases i with
    | zero => simp [Nat.eq_of_beq_eq_true h.1]
    | succ i =>
      have := h2 i (by omega)
      simp only [List.getElem?_cons_succ, this, Option.some.injEq]; omega

theorem fitH_spec {m : List (Option Nat)} {H : Heap} : ∀ {ms : List (Option Nat)} {h : Heap} {vc : List Prop}, fitH m H ms h = some vc → AllP vc →
    ms.length = h.length ∧ ∀ (k : Nat) (b : Blk), h[k]? = some (some b) →
      (ms[k]? = some none ∧ b.c.rows = 0) ∨ ∃ c blk vc', ms[k]? = some (some c) ∧ H[c]? = some (some blk) ∧ (b.own = true → blk.own = true) ∧ fitC m blk.c b.c = some vc' ∧ AllP vc'
  | [], [], vc, h, hv => ⟨rfl, fun k b hk => by simp at hk⟩
  | [], none :: _, vc, h, hv => by simp [fitH] at h
  | [], some _ :: _, vc, h, hv => by simp [fitH] at h
  | none :: _, [], vc, h, hv => by simp [fitH] at h
  | some _ :: _, [], vc, h, hv => by simp [fitH] at h
  | none :: ms, none :: l, vc, h, hv => by
    simp only [fitH] at h
    obtain ⟨h1, h2⟩ := fitH_spec h hv
    refine ⟨by simp [h1], fun k b hk => ?_⟩
    cases k with
    | zero => simp at hk
    | succ k => simpa using h2 k b (by simpa using hk)
  | some c :: ms, none :: l, vc, h, hv => by
    simp only [fitH] at h
    obtain ⟨h1, h2⟩ := fitH_spec h hv
    refine ⟨by simp [h1], fun k b hk => ?_⟩
    cases k with
    | zero => simp at hk
    | succ k => simpa using h2 k b (by simpa using hk)
  | none :: ms, some b0 :: l, vc, h, hv => by
    simp only [fitH] at h
    split at h
    · rename_i a r ha hr
      simp only [Option.some.injEq] at h; subst h
      obtain ⟨v1, v2⟩ := allP_app hv
      obtain ⟨h1, h2⟩ := fitH_spec hr v2
      refine ⟨by simp [h1], fun k b hk => ?_⟩
      cases k with
      | zero =>
        simp at hk; subst hk
        left
        refine ⟨rfl, ?_⟩
        unfold noRows at ha
        split at ha
        · cases ha; rename_i k xs e; rw [e]; obtain ⟨rfl, _⟩ := v1; rfl
        · cases ha; rename_i k xs e; rw [e]; obtain ⟨rfl, _⟩ := v1; rfl
        · cases ha; rename_i k xs e; rw [e]; obtain ⟨rfl, _⟩ := v1; rfl
        · cases ha; rename_i n sz g e; rw [e]; obtain ⟨rfl, _⟩ := v1; rfl
        · cases ha
      | succ k => simpa using h2 k b (by simpa using hk)
    · cases h
  | some c :: ms, some b0 :: l, vc, h, hv => by
    simp only [fitH] at h
    split at h
    · rename_i blk hblk
      cases ho : (blk.own || !b0.own) with
      | false => simp [ho] at h
      | true =>
        simp only [ho, cond_true] at h
        split at h
        · rename_i a r ha hr
          simp only [Option.some.injEq] at h; subst h
          obtain ⟨v1, v2⟩ := allP_app hv
          obtain ⟨h1, h2⟩ := fitH_spec hr v2
          refine ⟨by simp [h1], fun k b hk => ?_⟩
          cases k with
          | zero =>
            simp at hk; subst hk
            right
            refine ⟨c, blk, a, rfl, ?_, fun hb => by rw [hb] at ho; simpa using ho, ha, v1⟩
            unfold blkAt at hblk
            rw [nth_eq] at hblk
            split at hblk
            · rename_i x hx; cases hblk; exact hx
            · cases hblk
          | succ k => simpa using h2 k b (by simpa using hk)
        · cases h
    · cases h

theorem fitE_spec {m : List (Option Nat)} {e : Env} : ∀ {l : Env} {vc : List Prop}, fitE m e l = some vc → AllP vc → ∀ (t : Nat) (v' : Value), look t l = some v' → ∃ v vc', look t e = some v ∧ fitV m v v' = some vc' ∧ AllP vc'
  | [], vc, h, hv, t, v', ht => by simp [look] at ht
  | (u, v0) :: l, vc, h, hv, t, v', ht => by
    simp only [fitE] at h
    split at h
    · rename_i v hl
      split at h
      · rename_i a r ha hr
        simp only [Option.some.injEq] at h; subst h
        obtain ⟨v1, v2⟩ := allP_app hv
        simp only [look] at ht
        cases hb : Nat.beq t u with
        | true =>
          simp only [hb, cond_true, Option.some.injEq] at ht; subst ht
          have := Nat.eq_of_beq_eq_true hb; subst this
          exact ⟨v, a, hl, ha, v1⟩
        | false =>
          simp only [hb, cond_false] at ht
          exact fitE_spec hr v2 t v' ht
      · cases h
    · cases h

/-- The places under the names 'm'. -/
def placesFit (ι : List Place) : List (Option Nat) → Heap → List Place
  | some b :: ms, _ :: l => (ι[b]?).getD ⟨none, 0, 0, 0⟩ :: placesFit ι ms l
  | none :: ms, x :: l => ⟨none, 0, (match x with | some b => b.c.sz | none => 0), 0⟩ :: placesFit ι ms l
  | _, _ => []

theorem placesFit_spec (ι : List Place) : ∀ (ms : List (Option Nat)) (h : Heap), ms.length = h.length → (placesFit ι ms h).length = h.length ∧
    (∀ (k b : Nat), ms[k]? = some (some b) → (placesFit ι ms h)[k]? = some ((ι[b]?).getD ⟨none, 0, 0, 0⟩)) ∧
    (∀ (k : Nat) (b : Blk), ms[k]? = some none → h[k]? = some (some b) → (placesFit ι ms h)[k]? = some ⟨none, 0, b.c.sz, 0⟩)
  | [], [], _ => ⟨rfl, fun k b hk => by simp at hk, fun k b hk => by simp at hk⟩
  | [], _ :: _, h => by simp at h
  | _ :: _, [], h => by simp at h
  | some b0 :: ms, x :: l, h => by
    obtain ⟨h1, h2, h3⟩ := placesFit_spec ι ms l (by simpa using h)
    refine ⟨by simp [placesFit, h1], fun k b hk => ?_, fun k b hk hb => ?_⟩
    · cases k with
      | zero => simp at hk; subst hk; rfl
      | succ k => simpa [placesFit] using h2 k b (by simpa using hk)
    · cases k with
      | zero => simp at hk
      | succ k => simpa [placesFit] using h3 k b (by simpa using hk) (by simpa using hb)
  | none :: ms, x :: l, h => by
    obtain ⟨h1, h2, h3⟩ := placesFit_spec ι ms l (by simpa using h)
    refine ⟨by simp [placesFit, h1], fun k b hk => ?_, fun k b hk hb => ?_⟩
    · cases k with
      | zero => simp at hk
      | succ k => simpa [placesFit] using h2 k b (by simpa using hk)
    · cases k with
      | zero => simp at hb; subst hb; rfl
      | succ k => simpa [placesFit] using h3 k b (by simpa using hk) (by simpa using hb)

theorem fit_heap {n0 : Nat} {m : List (Option Nat)} {H H' : Heap} {ι : List Place} {w : World} {vc : List Prop} (hrh : RH ι H w) (honce : onceAll m = true) (hpre : isPre n0 0 m = true) (hn : n0 ≤ H.length)
    (h : fitH m H m H' = some vc) (hv : AllP vc) : ∃ ι', Mapped ι ι' m ∧ RH ι' H' w ∧ ExtN n0 ι H w ι' H' w ∧ n0 ≤ H'.length := by
  obtain ⟨hl, hk⟩ := fitH_spec h hv
  obtain ⟨p1, p2, p3⟩ := placesFit_spec ι m H' hl
  have hmap : Mapped ι (placesFit ι m H') m := by
    intro k b p hm hp
    rw [p2 k b hm, hp]; rfl
  -- what a named block comes from
  have src : ∀ (k : Nat) (p : Place) (b : Blk), (placesFit ι m H')[k]? = some p → H'[k]? = some (some b) → (p.blk = none ∧ b.c.rows = 0 ∧ p.sz = b.c.sz) ∨
      ∃ c blk vc', m[k]? = some (some c) ∧ ι[c]? = some p ∧ H[c]? = some (some blk) ∧ (b.own = true → blk.own = true) ∧ fitC m blk.c b.c = some vc' ∧ AllP vc' := by
    intro k p b hp hb
    rcases hk k b hb with ⟨h1, h2⟩ | ⟨c, blk, vc', h1, h2, h3, h4, h5⟩
    · left
      rw [p3 k b h1 hb] at hp
      cases hp
      exact ⟨rfl, h2, rfl⟩
    · right
      refine ⟨c, blk, vc', h1, ?_, h2, h3, h4, h5⟩
      have hlt : c < ι.length := by
        have := some_lt h2
        rw [hrh.len]; exact this
      rw [p2 k c h1, List.getElem?_eq_getElem hlt] at hp
      rw [List.getElem?_eq_getElem hlt]
      simpa using hp
  obtain ⟨q1, q2⟩ := isPre_spec hpre
  have hnl : n0 ≤ ι.length := by rw [hrh.len]; exact hn
  have hown : ∀ rb, Own (placesFit ι m H') H' rb → Own ι H rb := by
    rintro rb ⟨k, p, b, hp, hb, ho, hrb⟩
    rcases src k p b hp hb with ⟨h1, _⟩ | ⟨c, blk, vc', h1, h2, h3, h4, _⟩
    · rw [h1] at hrb; cases hrb
    · exact ⟨c, p, blk, h2, h3, h4 ho, hrb⟩
  refine ⟨placesFit ι m H', hmap, ⟨p1, fun k p b hp hb => ?_, fun i j p q b c rb hp hb ho hq hc hij hrb => ?_, fun k p b rb hp hb hrb => ?_⟩, ⟨⟨(placesFit ι m H').drop n0, ?_⟩, hnl, Fr.refl _ _, fun rb ho => .inl (hown rb ho)⟩, by omega⟩
  · rcases src k p b hp hb with ⟨h1, h2, h3⟩ | ⟨c, blk, vc', h1, h2, h3, h4, h5, h6⟩
    · refine ⟨h3, fun r hr => by omega, fun r j hr => by omega, fun _ rb hrb => ?_⟩
      rw [h1] at hrb; cases hrb
    · exact (hrh.blk c p blk h2 h3).fit hmap h5 h6 h4
  · rcases src i p b hp hb with ⟨h1, _⟩ | ⟨c1, blk1, _, h1, h2, h3, h4, _⟩
    · rw [h1] at hrb; cases hrb
    · intro hrb'
      rcases src j q c hq hc with ⟨g1, _⟩ | ⟨c2, blk2, _, g1, g2, g3, _, _⟩
      · rw [g1] at hrb'; cases hrb'
      · exact hrh.sep c1 c2 p q blk1 blk2 rb h2 h3 (h4 ho) g2 g3 (onceAll_spec honce i j c1 c2 h1 g1 hij) hrb hrb'
  · rcases src k p b hp hb with ⟨h1, _⟩ | ⟨c, blk, vc', h1, h2, h3, _⟩
    · rw [h1] at hrb; cases hrb
    · exact hrh.lt c p blk rb h2 h3 hrb
  · have : (placesFit ι m H').take n0 = ι.take n0 := by
      apply List.ext_getElem?
      intro i
      rcases Nat.lt_or_ge i n0 with hi | hi
      · rw [List.getElem?_take_of_lt hi, List.getElem?_take_of_lt hi]
        have hil : i < ι.length := by omega
        rw [p2 i _ (by simpa using q2 i hi), List.getElem?_eq_getElem hil]
        rfl
      · rw [List.getElem?_eq_none (by simp; omega), List.getElem?_eq_none (by simp; omega)]
    rw [← this, List.take_append_drop]

theorem fit_sound {N n0 : Nat} {m : List (Option Nat)} {s s' : St} {ι : List Place} {a : Act} {w : World} {vc : List Prop} (hr : Rel N ι s a w) (hn : n0 ≤ s.hp.length) (h : fit n0 m s s' = some vc) (hv : AllP vc) :
    ∃ ι', Rel N ι' s' a w ∧ ExtN n0 ι s.hp w ι' s'.hp w ∧ n0 ≤ s'.hp.length := by
  unfold fit at h
  cases ho : (onceAll m && isPre n0 0 m) with
  | false => simp [ho] at h
  | true =>
    simp only [ho, cond_true] at h
    simp only [Bool.and_eq_true] at ho
    split at h
    · rename_i va vb ha hb
      simp only [Option.some.injEq] at h; subst h
      obtain ⟨v1, v2⟩ := allP_app hv
      obtain ⟨ι', hm, hrh, hx, hle⟩ := fit_heap hr.rh ho.1 ho.2 hn hb v2
      refine ⟨ι', ⟨hr.size, hr.defers, fun t v' ht => ?_, hrh⟩, hx, hle⟩
      obtain ⟨v, vc', h1, h2, h3⟩ := fitE_spec ha v1 t v' ht
      obtain ⟨g1, g2⟩ := hr.env t v h1
      exact ⟨g1, fitV_sound _ _ _ _ _ _ _ hm h2 h3 g2⟩
    · cases h

end Go.Sim
end
