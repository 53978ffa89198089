/- A pure account of the values, floats and memory of a run, and how it stands to the model's (part 14: regions whose order is drawn). Conditions: none. -/
import Derived.Test.YtgjdkhocnnoimaaS13
namespace Go.Sim
open Go

/-- What the lexical run of a region met at an operation: values and memory before it, what was told, whether its guard let it, its value, the memory behind it, what is to be shown. -/
structure Tr where
  e : Env
  H : Heap
  os : List Orc
  g : Bool
  v : Value
  H' : Heap
  vc : List Prop

def evTr (P : Program) (N : Nat) (all : List Oper) : List Oper → St → List Orc → Option (List Tr × St × List Orc)
  | [], s, os => some ([], s, os)
  | o :: l, s, os =>
    match guardB all s.tm o os with
    | some (true, os1, vg) =>
      match evOp P o.op s.tm s.hp os1 with
      | some r => match putD N o.dst r.v s.tm with
        | some e => match evTr P N all l ⟨e, r.hp⟩ r.os with
          | some (ts, s', os') => some (⟨s.tm, s.hp, os1, true, r.v, r.hp, vg ++ r.vc⟩ :: ts, s', os')
          | none => none
        | none => none
      | none => none
    | some (false, os1, vg) =>
      match putD N o.dst undef s.tm with
      | some e => match evTr P N all l ⟨e, s.hp⟩ os1 with
        | some (ts, s', os') => some (⟨s.tm, s.hp, os1, false, undef, s.hp, vg⟩ :: ts, s', os')
        | none => none
      | none => none
    | none => none

/-- An operation that may turn memory. -/
def isEff : Op → Bool
  | .store .. | .alloc _ | .box .. | .buildSlice .. | .makeSlice .. => true
  | .call ⟨.value _, _, _⟩ => true
  | .call ⟨.builtin .append, _, _⟩ => true
  | .call ⟨.builtin .copy, _, _⟩ => true
  | _ => false

/-- An operation that looks at memory. -/
def isRead : Op → Bool
  | .load .. | .indexAddr .. | .slice .. => true
  | _ => false

def maskOf (acc : List Nat) : List Edge → Nat
  | [] => 0
  | e :: l => bif Region.binds .any e then maskOf acc l ||| 2 ^ e.on ||| (nth acc e.on).getD 0 else maskOf acc l

/-- Of each operation, which must come before it. -/
def masks : List Oper → List Nat → List Nat
  | [], acc => acc
  | o :: l, acc => masks l (acc ++ [maskOf acc o.after.toList])

/-- A turning operation that is told to leave memory as it was. -/
def isQuiet (q i : Nat) (o : Oper) : Bool := isEff o.op && Nat.testBit q i

def effFrom (q k : Nat) : List Oper → List Nat
  | [] => []
  | o :: l => bif isEff o.op && !(Nat.testBit q k) then k :: effFrom q (k + 1) l else effFrom q (k + 1) l

def cnt (p : Nat → Bool) : List Nat → Nat
  | [] => 0
  | x :: l => bif p x then cnt p l + 1 else cnt p l

def allB {α : Type} (p : α → Bool) : List α → Bool
  | [] => true
  | x :: l => p x && allB p l

def anc (M : List Nat) (j i : Nat) : Bool := Nat.testBit ((nth M i).getD 0) j

/-- Of temporary 't', looked at by operation 'i', each writer stands apart from 'i' by an edge. -/
def readsOk (M : List Nat) (i t : Nat) : Nat → List Oper → Bool
  | _, [] => true
  | j, o :: l => (match o.dst with
    | some d => bif Nat.beq d t then (bif Nat.blt j i then anc M j i else Nat.blt i j && anc M i j) else true
    | none => true) && readsOk M i t (j + 1) l

/-- No other operation writes what 'i' writes. -/
def onceDst (d : Nat) : List Oper → Bool
  | [] => true
  | o :: l => (match o.dst with | some d' => !(Nat.beq d d') | none => true) && onceDst d l

def tmpsOf (ops : List Oper) (o : Oper) : List Nat :=
  (o.op.operands.toList.filterMap fun | .tmp t => some t | _ => none) ++
  (match o.guard with
   | some (g, _) => ((nth ops g).bind (·.dst)).toList
   | none => [])

def eachOk (M : List Nat) (ops : List Oper) : Nat → List Oper → Bool
  | _, [] => true
  | i, o :: l =>
    allB (fun e => !(Region.binds .any e) || Nat.blt e.on i) o.after.toList &&
    allB (fun t => readsOk M i t 0 ops) (tmpsOf ops o) &&
    (match o.dst with | some d => onceDst d l | none => true) &&
    (match o.op with | .select .. => false | _ => true) &&
    eachOk M ops (i + 1) l

/-- The operation that may come early. -/
def isF (f : Option Nat) (b : Nat) : Bool := match f with
  | some x => Nat.beq x b
  | none => false

def pairOk (M : List Nat) (f : Option Nat) : List Nat → Bool
  | [] => true
  | a :: l => allB (fun b => anc M a b || isF f b) l && pairOk M f l

/-- What stands behind the early operation stands behind all effects ahead of it in the text. -/
def behindOk (M E : List Nat) (x : Nat) : Nat → List Oper → Bool
  | _, [] => true
  | i, _ :: l => (!(anc M x i) || allB (fun e => !(Nat.blt e x) || anc M e i) E) && behindOk M E x (i + 1) l

def floatOk (M E : List Nat) (ops : List Oper) : Option Nat → Bool
  | none => true
  | some x => !(allB (fun e => !(Nat.beq e x)) E) && behindOk M E x 0 ops

def drawOk (q : Nat) (f : Option Nat) (ops : List Oper) : Bool :=
  let M := masks ops []
  eachOk M ops 0 ops && pairOk M f (effFrom q 0 ops) && floatOk M (effFrom q 0 ops) ops f

/-- A value of one cell that holds no address. -/
def flat1 : Value → Bool
  | .bool _ | .int _ _ | .float _ _ | .complex _ _ _ | .string _ | .pointer none | .slice none 0 0 | .nilFunc | .map none => true
  | _ => false

def flatC : Cont → Bool
  | .vs l => allP flat1 l
  | .nst _ _ _ _ => false
  | _ => true

/-- Blocks of 'H2' that are only read stood in 'H'. -/
def keepsRO : Heap → Heap → Bool
  | some _ :: H, some c :: H2 => (c.own || c.c.plainC) && keepsRO H H2
  | none :: H, some c :: H2 => c.own && keepsRO H H2
  | [], some c :: H2 => c.own && keepsRO [] H2
  | _ :: H, none :: H2 => keepsRO H H2
  | [], none :: H2 => keepsRO [] H2
  | _, [] => true

/-- A value of one cell whose addresses name blocks below 'n'. -/
def below1 (n : Nat) : Value → Bool
  | .pointer (some ⟨b, _, some _⟩) => Nat.blt b n
  | .slice (some ⟨b, _, none⟩) _ _ => Nat.blt b n
  | v => flat1 v

def belowC (n : Nat) : Cont → Bool
  | .vs l => allP (below1 n) l
  | .nst _ _ _ o => go n o
  | _ => true
where
  go (n : Nat) : List (Nat × Nat) → Bool
    | [] => true
    | (_, k) :: l => Nat.blt k n && go n l

def belowH (n : Nat) : Heap → Bool
  | [] => true
  | some b :: H => belowC n b.c && belowH n H
  | none :: H => belowH n H

/-- A new block's address, by another name. -/
def mv (b' : Nat) : Value → Value
  | .slice (some ⟨_, i, none⟩) l c => .slice (some ⟨b', i, none⟩) l c
  | .pointer (some ⟨_, i, some j⟩) => .pointer (some ⟨b', i, some j⟩)
  | v => v

def isNew : Value → Bool
  | .slice (some ⟨_, _, none⟩) _ _ => true
  | .pointer (some ⟨_, _, some _⟩) => true
  | _ => false

/-- What a read gives at another memory. -/
def readAt (P : Program) (o : Oper) (t : Tr) (H : Heap) : Option (List Prop) :=
  match evOp P o.op t.e H t.os with
  | some r => some ((r.v = t.v) :: (bif isEff o.op then (r.hp = H) :: r.vc else r.vc))
  | none => none

/-- The memories at which a read may come. -/
def readAll (P : Program) (o : Oper) (t : Tr) (own lo hi : Nat) : Nat → List Heap → Option (List Prop)
  | _, [] => some []
  | k, H :: l => bif !(Nat.beq k own) && Nat.ble lo k && Nat.ble k hi then
      match readAt P o t H, readAll P o t own lo hi (k + 1) l with
      | some a, some b => some (a ++ b)
      | _, _ => none
    else readAll P o t own lo hi (k + 1) l

def readVcs (P : Program) (q : Nat) (M : List Nat) (E : List Nat) (HS : List Heap) : Nat → List Oper → List Tr → Option (List Prop)
  | _, [], [] => some []
  | i, o :: l, t :: ts =>
    match readVcs P q M E HS (i + 1) l ts with
    | some b => bif (isRead o.op || isQuiet q i o) && t.g then
        match readAll P o t (cnt (fun e => Nat.blt e i) E) (cnt (fun e => anc M e i) E) (cnt (fun e => !anc M i e) E) 0 HS with
        | some a => some (t.vc ++ (bif isEff o.op then (t.H' = t.H) :: a else a) ++ b)
        | none => none
      else some (t.vc ++ b)
    | none => none
  | _, _, _ => none

def pickH (E : List Nat) (ts : List Tr) : List Heap :=
  match E with
  | [] => []
  | e :: E => match nth ts e with
    | some t => t.H' :: pickH E ts
    | none => pickH E ts

/-- The memory's last block. -/
def lastB : Heap → Option Blk
  | [] => none
  | [some b] => some b
  | _ :: l => lastB l

/-- The memories ahead of the early operation: their blocks do not name the one to come, and what is only read in the next stood in the one before. -/
def heapsOk : Nat → List Heap → Bool
  | k + 1, H :: H2 :: HS => belowH H.length H && keepsRO H H2 && heapsOk k (H2 :: HS)
  | 0, _ => true
  | _ + 1, _ => false

/-- The early operation at the memories ahead of its own. -/
def floatAll (P : Program) (o : Oper) (t : Tr) (b : Blk) (lo hi : Nat) : Nat → List Heap → Option (List Prop)
  | _, [] => some []
  | k, H :: l => bif Nat.ble lo k && Nat.blt k hi then
      match evOp P o.op t.e H t.os, floatAll P o t b lo hi (k + 1) l with
      | some r, some c => some ((r.v = mv H.length t.v) :: (r.hp = H ++ [some b]) :: (r.vc ++ c))
      | _, _ => none
    else floatAll P o t b lo hi (k + 1) l

def floatVcs (P : Program) (M E : List Nat) (HS : List Heap) (ops : List Oper) (ts : List Tr) : Option Nat → Option (List Prop)
  | none => some []
  | some x => match nth ops x, nth ts x with
    | some o, some t => match lastB t.H' with
      | some b => bif t.g && b.own && flatC b.c && isNew t.v && heapsOk (cnt (fun e => Nat.blt e x) E) HS then
          match floatAll P o t b (cnt (fun e => anc M e x) E) (cnt (fun e => Nat.blt e x) E) 0 HS with
          | some c => some ((t.v = mv t.H.length t.v) :: (t.H' = t.H ++ [some b]) :: c)
          | none => none
        else none
      | none => none
    | _, _ => none

/-- Which of a region's calls are told to leave memory as it was, and which allocation may come early. -/
def quietOf : List Orc → Nat × Option Nat × List Orc
  | .q m f :: os => (m, f, os)
  | os => (0, none, os)

/-- A region whose order is drawn. -/
def evDraw (P : Program) (N : Nat) (ops : List Oper) (s : St) (os : List Orc) : Option (St × List Orc × List Prop) :=
  match quietOf os with
  | (q, f, os) =>
    bif drawOk q f ops then
      match evTr P N ops ops s os with
      | some (ts, s', os') =>
        match readVcs P q (masks ops []) (effFrom q 0 ops) (s.hp :: pickH (effFrom q 0 ops) ts) 0 ops ts, floatVcs P (masks ops []) (effFrom q 0 ops) (s.hp :: pickH (effFrom q 0 ops) ts) ops ts f with
        | some vc, some vf => some (s', os', vc ++ vf)
        | _, _ => none
      | none => none
    else none

/-! ### The order's ancestors -/

theorem maskOf_spec (acc : List Nat) : ∀ {es : List Edge} {j : Nat}, Nat.testBit (maskOf acc es) j = true → ∃ e ∈ es, Region.binds .any e = true ∧ (j = e.on ∨ Nat.testBit ((nth acc e.on).getD 0) j = true)
  | [], j, h => by simp [maskOf] at h
  | e :: es, j, h => by
    simp only [maskOf] at h
    cases hb : Region.binds .any e with
    | false =>
      simp only [hb, cond_false] at h
      obtain ⟨e', h1, h2⟩ := maskOf_spec acc h
      exact ⟨e', List.mem_cons_of_mem _ h1, h2⟩
    | true =>
      simp only [hb, cond_true, Nat.testBit_or, Bool.or_eq_true] at h
      rcases h with (h | h) | h
      · obtain ⟨e', h1, h2⟩ := maskOf_spec acc h
        exact ⟨e', List.mem_cons_of_mem _ h1, h2⟩
      · rw [Nat.testBit_two_pow] at h
        exact ⟨e, List.mem_cons_self .., hb, .inl (of_decide_eq_true h).symm⟩
      · exact ⟨e, List.mem_cons_self .., hb, .inr h⟩

theorem masks_prefix : ∀ (l : List Oper) (acc : List Nat), ∃ r, masks l acc = acc ++ r ∧ r.length = l.length
  | [], acc => ⟨[], by simp [masks]⟩
  | o :: l, acc => by
    obtain ⟨r, h1, h2⟩ := masks_prefix l (acc ++ [maskOf acc o.after.toList])
    exact ⟨maskOf acc o.after.toList :: r, by simp [masks, h1], by simp [h2]⟩

theorem masks_get : ∀ (l : List Oper) (acc : List Nat) (i : Nat) (o : Oper), l[i]? = some o →
    ∃ pre, (masks l acc)[acc.length + i]? = some (maskOf pre o.after.toList) ∧ pre.length = acc.length + i ∧ ∀ k, k < acc.length + i → pre[k]? = (masks l acc)[k]?
  | [], acc, i, o, h => by simp at h
  | o' :: l, acc, 0, o, h => by
    simp at h; subst h
    obtain ⟨r, h1, h2⟩ := masks_prefix l (acc ++ [maskOf acc o'.after.toList])
    refine ⟨acc, ?_, by simp, fun k hk => ?_⟩
    · simp only [masks, h1]; simp
    · simp only [masks, h1]
      rw [List.append_assoc, List.getElem?_append_left (by omega)]
  | o' :: l, acc, i + 1, o, h => by
    obtain ⟨pre, h1, h2, h3⟩ := masks_get l (acc ++ [maskOf acc o'.after.toList]) i o (by simpa using h)
    simp only [List.length_append, List.length_cons, List.length_nil] at h1 h2 h3
    refine ⟨pre, ?_, by omega, fun k hk => h3 k (by omega)⟩
    simp only [masks]
    rw [← h1]; congr 1; omega

/-- An ancestor is a named edge's end, or an ancestor of one. -/
theorem anc_spec {ops : List Oper} {i j : Nat} {o : Oper} (ho : ops[i]? = some o) (hback : ∀ e ∈ o.after.toList, Region.binds .any e = true → e.on < i) (h : anc (masks ops []) j i = true) :
    ∃ e ∈ o.after.toList, Region.binds .any e = true ∧ (j = e.on ∨ anc (masks ops []) j e.on = true) := by
  obtain ⟨pre, h1, h2, h3⟩ := masks_get ops [] i o ho
  simp only [List.length_nil, Nat.zero_add] at h1 h2 h3
  unfold anc at h
  rw [nth_eq, h1] at h
  simp only [Option.getD_some] at h
  obtain ⟨e, he, hb, hj⟩ := maskOf_spec pre h
  refine ⟨e, he, hb, ?_⟩
  rcases hj with hj | hj
  · exact .inl hj
  · right
    have := hback e he hb
    unfold anc
    rw [nth_eq] at hj ⊢
    rw [← h3 e.on this]; exact hj

theorem allB_spec {α : Type} {p : α → Bool} : ∀ {l : List α}, allB p l = true → ∀ x ∈ l, p x = true
  | [], _, x, hx => by cases hx
  | y :: l, h, x, hx => by
    simp only [allB, Bool.and_eq_true] at h
    rcases List.mem_cons.1 hx with rfl | hx
    · exact h.1
    · exact allB_spec h.2 x hx

theorem readsOk_spec {M : List Nat} {i t : Nat} : ∀ {l : List Oper} {k : Nat}, readsOk M i t k l = true → ∀ (j : Nat) (o : Oper), l[j]? = some o → o.dst = some t →
    (k + j < i ∧ anc M (k + j) i = true) ∨ (i < k + j ∧ anc M i (k + j) = true)
  | [], k, _, j, o, h, _ => by simp at h
  | o' :: l, k, h, j, o, hj, hd => by
    simp only [readsOk, Bool.and_eq_true] at h
    cases j with
    | zero =>
      simp at hj; subst hj
      have h1 := h.1
      rw [hd] at h1
      simp only [Nat.add_zero]
      have hbt : Nat.beq t t = true := by simp
      simp only [hbt, cond_true] at h1
      cases hb : Nat.blt k i with
      | true => exact .inl ⟨Nat.le_of_ble_eq_true hb, by simpa [hb] using h1⟩
      | false =>
        simp only [hb, cond_false, Bool.and_eq_true] at h1
        exact .inr ⟨Nat.le_of_ble_eq_true h1.1, h1.2⟩
    | succ j =>
      have := readsOk_spec h.2 j o (by simpa using hj) hd
      simpa [Nat.add_assoc, Nat.add_comm 1 j] using this

theorem onceDst_spec {d : Nat} : ∀ {l : List Oper}, onceDst d l = true → ∀ (j : Nat) (o : Oper), l[j]? = some o → o.dst ≠ some d
  | [], _, j, o, h => by simp at h
  | o' :: l, h, j, o, hj => by
    simp only [onceDst, Bool.and_eq_true] at h
    cases j with
    | zero =>
      simp at hj; subst hj
      intro hd
      have h1 := h.1
      rw [hd] at h1
      simp at h1
    | succ j => exact onceDst_spec h.2 j o (by simpa using hj)

structure EachOk (ops : List Oper) (i : Nat) (o : Oper) : Prop where
  back : ∀ e ∈ o.after.toList, Region.binds .any e = true → e.on < i
  reads : ∀ t ∈ tmpsOf ops o, ∀ (j : Nat) (o' : Oper), ops[j]? = some o' → o'.dst = some t → (j < i ∧ anc (masks ops []) j i = true) ∨ (i < j ∧ anc (masks ops []) i j = true)
  once : ∀ d, o.dst = some d → ∀ (j : Nat) (o' : Oper), i < j → ops[j]? = some o' → o'.dst ≠ some d
  sel : ∀ cs b, o.op ≠ .select cs b

theorem eachOk_spec {ops : List Oper} : ∀ {l : List Oper} {k : Nat}, (∀ (j : Nat), l[j]? = ops[k + j]?) → eachOk (masks ops []) ops k l = true → ∀ (i : Nat) (o : Oper), k ≤ i → ops[i]? = some o → EachOk ops i o
  | [], k, hl, _, i, o, hi, ho => by
    have := hl (i - k)
    rw [show k + (i - k) = i from by omega, ho] at this
    simp at this
  | o' :: l, k, hl, h, i, o, hi, ho => by
    simp only [eachOk, Bool.and_eq_true] at h
    obtain ⟨⟨⟨⟨h1, h2⟩, h3⟩, h4⟩, h5⟩ := h
    have hl' : ∀ (j : Nat), l[j]? = ops[k + 1 + j]? := by
      intro j; have := hl (j + 1); simpa [Nat.add_assoc, Nat.add_comm 1 j] using this
    rcases Nat.lt_or_ge k i with hki | hki
    · exact eachOk_spec hl' h5 i o hki ho
    · have : i = k := by omega
      subst this
      have h0 : o' = o := by
        have := hl 0
        simp only [List.getElem?_cons_zero, Nat.add_zero, ho, Option.some.injEq] at this
        exact this
      subst h0
      refine ⟨fun e he hb => ?_, fun t ht j o2 hj hd => ?_, fun d hd j o2 hij hj => ?_, fun cs b e => ?_⟩
      · have := allB_spec h1 e he
        simp only [hb, Bool.not_true, Bool.false_or] at this
        exact Nat.le_of_ble_eq_true this
      · have := readsOk_spec (allB_spec h2 t ht) j o2 hj hd
        simpa using this
      · rw [hd] at h3
        exact onceDst_spec h3 (j - (i + 1)) o2 (by rw [hl', show i + 1 + (j - (i + 1)) = j from by omega]; exact hj)
      · rw [e] at h4; cases h4

theorem pairOk_spec {M : List Nat} {f : Option Nat} : ∀ {E : List Nat}, pairOk M f E = true → ∀ (x y : Nat) (a b : Nat), x < y → E[x]? = some a → E[y]? = some b → anc M a b = true ∨ f = some b
  | [], _, x, y, a, b, _, hx, _ => by simp at hx
  | c :: E, h, x, y, a, b, hxy, hx, hy => by
    simp only [pairOk, Bool.and_eq_true] at h
    cases y with
    | zero => omega
    | succ y =>
      cases x with
      | zero =>
        simp at hx; subst hx
        have := allB_spec h.1 b (List.mem_of_getElem? (by simpa using hy))
        simp only [Bool.or_eq_true] at this
        rcases this with h' | h'
        · exact .inl h'
        · right
          unfold isF at h'
          cases f with
          | none => cases h'
          | some x => rw [Nat.eq_of_beq_eq_true h']
      | succ x => exact pairOk_spec h.2 x y a b (by omega) (by simpa using hx) (by simpa using hy)

theorem cnt_le {p q : Nat → Bool} : ∀ {E : List Nat}, (∀ e ∈ E, p e = true → q e = true) → cnt p E ≤ cnt q E
  | [], _ => Nat.le_refl _
  | x :: E, h => by
    have ih := cnt_le (p := p) (q := q) (E := E) fun e he => h e (List.mem_cons_of_mem _ he)
    simp only [cnt]
    cases hp : p x with
    | true => rw [h x (List.mem_cons_self ..) hp]; simpa using ih
    | false => cases hq : q x <;> simp <;> omega

theorem cnt_congr {p q : Nat → Bool} {E : List Nat} (h : ∀ e ∈ E, p e = q e) : cnt p E = cnt q E :=
  Nat.le_antisymm (cnt_le fun e he hp => by rw [← h e he]; exact hp) (cnt_le fun e he hq => by rw [h e he]; exact hq)

theorem effFrom_spec {q : Nat} : ∀ {l : List Oper} {k : Nat} (i : Nat), i ∈ effFrom q k l ↔ k ≤ i ∧ ∃ o, l[i - k]? = some o ∧ isEff o.op = true ∧ Nat.testBit q i = false
  | [], k, i => by simp [effFrom]
  | o :: l, k, i => by
    have ih := effFrom_spec (q := q) (l := l) (k := k + 1) i
    have hidx : ∀ (h : k + 1 ≤ i), (o :: l)[i - k]? = l[i - (k + 1)]? := by
      intro h
      rw [show i - k = (i - (k + 1)) + 1 from by omega]; simp
    simp only [effFrom]
    cases he : (isEff o.op && !(Nat.testBit q k)) with
    | true =>
      simp only [Bool.and_eq_true, Bool.not_eq_true'] at he
      simp only [cond_true, List.mem_cons, ih]
      constructor
      · rintro (rfl | ⟨h1, h2⟩)
        · exact ⟨Nat.le_refl _, o, by simp, he⟩
        · exact ⟨by omega, by rw [hidx h1]; exact h2⟩
      · rintro ⟨h1, o', h2, h3⟩
        rcases Nat.lt_or_ge k i with h | h
        · exact .inr ⟨h, o', by rw [← hidx h]; exact h2, h3⟩
        · exact .inl (by omega)
    | false =>
      simp only [cond_false, ih]
      constructor
      · rintro ⟨h1, h2⟩; exact ⟨by omega, by rw [hidx h1]; exact h2⟩
      · rintro ⟨h1, o', h2, h3⟩
        rcases Nat.lt_or_ge k i with h | h
        · exact ⟨h, o', by rw [← hidx h]; exact h2, h3⟩
        · have : i = k := by omega
          subst this
          simp at h2; subst h2
          rw [h3.1, h3.2] at he; cases he

theorem effFrom_sorted {q : Nat} : ∀ {l : List Oper} {k x y a b : Nat}, x < y → (effFrom q k l)[x]? = some a → (effFrom q k l)[y]? = some b → a < b
  | [], k, x, y, a, b, _, hx, _ => by simp [effFrom] at hx
  | o :: l, k, x, y, a, b, hxy, hx, hy => by
    simp only [effFrom] at hx hy
    cases he : (isEff o.op && !(Nat.testBit q k)) with
    | false => simp only [he, cond_false] at hx hy; exact effFrom_sorted hxy hx hy
    | true =>
      simp only [he, cond_true] at hx hy
      cases y with
      | zero => omega
      | succ y =>
        have hb := (effFrom_spec (q := q) (l := l) (k := k + 1) b).1 (List.mem_of_getElem? (by simpa using hy))
        cases x with
        | zero => simp at hx; omega
        | succ x => exact effFrom_sorted (x := x) (y := y) (by omega) (by simpa using hx) (by simpa using hy)

theorem behindOk_spec {M E : List Nat} {x : Nat} : ∀ {l : List Oper} {k : Nat}, behindOk M E x k l = true → ∀ (i : Nat), k ≤ i → i < k + l.length → anc M x i = true → ∀ e ∈ E, e < x → anc M e i = true
  | [], k, _, i, h1, h2, _ => by simp at h2; omega
  | o :: l, k, h, i, h1, h2, ha => by
    simp only [behindOk, Bool.and_eq_true] at h
    rcases Nat.lt_or_ge k i with hk | hk
    · exact behindOk_spec h.2 i hk (by simp at h2; omega) ha
    · have : i = k := by omega
      subst this
      intro e he hlt
      have h3 := h.1
      rw [ha] at h3
      simp only [Bool.not_true, Bool.false_or] at h3
      have h4 := allB_spec h3 e he
      simp only [Bool.or_eq_true, Bool.not_eq_true'] at h4
      rcases h4 with h4 | h4
      · have : Nat.blt e x = true := Nat.ble_eq_true_of_le hlt
        rw [this] at h4; cases h4
      · exact h4

theorem floatOk_spec {M E : List Nat} {ops : List Oper} {x : Nat} (h : floatOk M E ops (some x) = true) : x ∈ E ∧ ∀ (i : Nat), i < ops.length → anc M x i = true → ∀ e ∈ E, e < x → anc M e i = true := by
  simp only [floatOk, Bool.and_eq_true, Bool.not_eq_true'] at h
  refine ⟨?_, fun i hi => behindOk_spec h.2 i (Nat.zero_le _) (by omega)⟩
  by_cases hx : x ∈ E
  · exact hx
  · exfalso
    have key : ∀ (l : List Nat), x ∉ l → allB (fun e => !(Nat.beq e x)) l = true := by
      intro l
      induction l with
      | nil => intro _; rfl
      | cons y l ih =>
        intro hn
        simp only [List.mem_cons, not_or] at hn
        simp only [allB, Bool.and_eq_true, Bool.not_eq_true']
        refine ⟨?_, ih hn.2⟩
        cases hb : Nat.beq y x with
        | false => rfl
        | true => exact absurd (Nat.eq_of_beq_eq_true hb).symm hn.1
    rw [key E hx] at h; cases h.1

theorem heapsOk_spec : ∀ {n : Nat} {HS : List Heap}, heapsOk n HS = true → ∀ (k : Nat), k < n → ∃ H H2, HS[k]? = some H ∧ HS[k + 1]? = some H2 ∧ belowH H.length H = true ∧ keepsRO H H2 = true
  | 0, _, _, k, hk => by omega
  | n + 1, [], h, _, _ => by cases h
  | n + 1, [_], h, _, _ => by cases h
  | n + 1, H :: H2 :: HS, h, k, hk => by
    simp only [heapsOk, Bool.and_eq_true] at h
    cases k with
    | zero => exact ⟨H, H2, rfl, rfl, h.1.1, h.1.2⟩
    | succ k =>
      obtain ⟨A, B, e1, e2, e3⟩ := heapsOk_spec h.2 k (by omega)
      exact ⟨A, B, by simpa using e1, by simpa using e2, e3⟩

theorem floatAll_spec {P : Program} {o : Oper} {t : Tr} {b : Blk} {lo hi : Nat} : ∀ {HS : List Heap} {k : Nat} {c : List Prop}, floatAll P o t b lo hi k HS = some c → AllP c →
    ∀ (j : Nat) (H : Heap), HS[j]? = some H → lo ≤ k + j → k + j < hi → ∃ r, evOp P o.op t.e H t.os = some r ∧ r.v = mv H.length t.v ∧ r.hp = H ++ [some b] ∧ AllP r.vc
  | [], k, c, _, _, j, H, hj, _, _ => by simp at hj
  | H0 :: HS, k, c, h, hv, j, H, hj, h1, h2 => by
    simp only [floatAll] at h
    cases hc : (Nat.ble lo k && Nat.blt k hi) with
    | true =>
      simp only [hc, cond_true] at h
      split at h
      · rename_i r c1 hr hc1
        simp only [Option.some.injEq] at h; subst h
        obtain ⟨v1, v2, v3⟩ := hv
        obtain ⟨v3, v4⟩ := allP_append _ _ v3
        cases j with
        | zero => simp at hj; subst hj; exact ⟨r, hr, v1, v2, v3⟩
        | succ j => exact floatAll_spec hc1 v4 j H (by simpa using hj) (by omega) (by omega)
      · cases h
    | false =>
      simp only [hc, cond_false] at h
      cases j with
      | zero =>
        exfalso
        have : (Nat.ble lo k && Nat.blt k hi) = true := by
          simp only [Bool.and_eq_true]
          exact ⟨Nat.ble_eq_true_of_le h1, Nat.ble_eq_true_of_le (show k + 1 ≤ hi from h2)⟩
        rw [this] at hc; cases hc
      | succ j => exact floatAll_spec h hv j H (by simpa using hj) (by omega) (by omega)

end Go.Sim
