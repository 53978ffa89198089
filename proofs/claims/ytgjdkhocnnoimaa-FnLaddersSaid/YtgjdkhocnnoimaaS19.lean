/- A pure account of the values, floats and memory of a run, and how it stands to the model's (part 19: what the printed proofs lean on). Conditions: none. -/
import Derived.Test.YtgjdkhocnnoimaaS17
import Derived.LoopN

section
namespace Go.Sim
open Go

/-! ### Code -/

/-- The sign that a region's run is given (as a loop's is), with the region's number. -/
def givenOs : Code → List Orc → Option (List Orc)
  | .region id _ _, .l [k] [] .normal [] [] :: r => bif Nat.beq k id then some r else none
  | _, _ => none

/-- What is told of a loop: the names under which its state is taken, that state, how it ends, the state behind it. -/
def evC (P : Program) (N n0 : Nat) : Code → St → List Orc → List (List (Option Nat) × St × Exit × St) → Option (Exit × St × List Orc × List (List (Option Nat) × St × Exit × St) × List Prop)
  | .skip, s, os, ls => some (.normal, s, os, ls, [])
  | .region _ ⟨ops⟩ false, s, os, ls =>
    match evOps P N ops ops s os with
    | some (s', os', vc) => some (.normal, s', os', ls, vc)
    | none => none
  | .region _ ⟨ops⟩ true, s, os, ls =>
    match evDraw P N ops s os with
    | some (s', os', vc) => some (.normal, s', os', ls, vc)
    | none => none
  | .seq x y, s, os, ls =>
    match givenOs x os, ls with
    | some os1, (m, s0, .normal, s1) :: r =>
      match fit n0 m s s0 with
      | some vc =>
        match evC P N n0 y s1 os1 r with
        | some (e, s2, os2, ls2, vc2) => some (e, s2, os2, ls2, vc ++ (PW P N n0 x s0 .normal s1 :: vc2))
        | none => none
      | none => none
    | some _, _ => none
    | none, ls =>
    match evC P N n0 x s os ls with
    | some (.normal, s1, os1, ls1, vc) =>
      match evC P N n0 y s1 os1 ls1 with
      | some (e, s2, os2, ls2, vc2) => some (e, s2, os2, ls2, vc ++ vc2)
      | none => none
    | r => r
  | .cond c x y, s, os, ls =>
    match evx s.tm c, os with
    | some (.bool t), .b true :: r =>
      match evC P N n0 x s r ls with
      | some (e, s1, os1, ls1, vc) => some (e, s1, os1, ls1, (t = true) :: vc)
      | none => none
    | some (.bool t), .b false :: r =>
      match evC P N n0 y s r ls with
      | some (e, s1, os1, ls1, vc) => some (e, s1, os1, ls1, (t = false) :: vc)
      | none => none
    | _, _ => none
  | .block id x, s, os, ls =>
    match evC P N n0 x s os ls with
    | some (.exit id', s1, os1, ls1, vc) => bif Nat.beq id' id then some (.normal, s1, os1, ls1, vc) else some (.exit id', s1, os1, ls1, vc)
    | r => r
  | .loop x, s, os, ls =>
    match ls with
    | (m, s0, e, s1) :: r =>
      match fit n0 m s s0 with
      | some vc => some (e, s1, os, r, vc ++ [PW P N n0 (.loop x) s0 e s1])
      | none => none
    | _ => none
  | .exit id, s, os, ls => some (.exit id, s, os, ls, [])
  | .ret, s, os, ls => some (.ret, s, os, ls, [])
  | _, _, _, _ => none

theorem ExtN.refl {n0 : Nat} {ι : List Place} {H : Heap} (w : World) (h : n0 ≤ ι.length) : ExtN n0 ι H w ι H w :=
  ⟨⟨ι.drop n0, (List.take_append_drop n0 ι).symm⟩, h, Fr.refl _ _, fun _ h => .inl h⟩

theorem ExtN.of_ext {n0 : Nat} {ι ι' : List Place} {H H' : Heap} {w w' : World} (h : n0 ≤ ι.length) (hx : Ext ι H w ι' H' w') : ExtN n0 ι H w ι' H' w' := by
  obtain ⟨l, hl⟩ := hx.pre
  exact ⟨⟨ι.drop n0 ++ l, by rw [← List.append_assoc, List.take_append_drop]; exact hl⟩, h, hx.fr, hx.fresh⟩

theorem ExtN.trans {n0 : Nat} {ι ι1 ι2 : List Place} {H H1 H2 : Heap} {w w1 w2 : World} (h : ExtN n0 ι H w ι1 H1 w1) (g : ExtN n0 ι1 H1 w1 ι2 H2 w2) : ExtN n0 ι H w ι2 H2 w2 := by
  obtain ⟨l, hl⟩ := h.pre
  obtain ⟨m, hm⟩ := g.pre
  refine ⟨⟨m, ?_⟩, h.len, h.fr.trans g.fr h.fresh, fun rb ho => ?_⟩
  · have : ι1.take n0 = ι.take n0 := by
      rw [hl, List.take_append_of_le_length (by simp [h.len]), List.take_take]; simp
    rw [hm, this]
  · rcases g.fresh rb ho with h' | h'
    · exact h.fresh rb h'
    · exact .inr (Nat.le_trans h.fr.size h')

theorem Ext.len {ι ι' : List Place} {H H' : Heap} {w w' : World} (hr : RH ι H w) (hx : Ext ι H w ι' H' w') : H.length ≤ H'.length := by
  obtain ⟨l, hl⟩ := hx.pre
  have h1 := hr.len
  have h2 := hx.rh.len
  rw [hl] at h2
  simp at h2; omega

theorem vr_bool_inv {ι : List Place} {t : Bool} {v : Value} (h : VR ι (.bool t) v) : v = .bool t := by cases h; rfl

section
variable {P : Program} {N n0 : Nat}

theorem PW.trans_ext {s s1 : St} {ι : List Place} {a : Act} {w : World} {Q : Exit → Act → World → Prop} {e : Exit} {c : Code} (hr : Rel N ι s a w) (hn : n0 ≤ s.hp.length) (h : PW P N n0 c s e s1)
    (hq : ∀ ι' a' w', Rel N ι' s1 a' w' → ExtN n0 ι s.hp w ι' s1.hp w' → n0 ≤ s1.hp.length → Q e a' w') : c.wp P Q a w :=
  wp_mono (h ι a w hr hn) fun e' a' w' ⟨he, ι', h1, h2, h3⟩ => by subst he; exact hq ι' a' w' h1 h2 h3

theorem evC_sound (hm : P.follows .mixedOrders = true) : ∀ {c : Code} {s s' : St} {os os' : List Orc} {ls ls' : List (List (Option Nat) × St × Exit × St)} {e : Exit} {vc : List Prop},
    evC P N n0 c s os ls = some (e, s', os', ls', vc) → AllP vc → PW P N n0 c s e s' := by
  intro c
  induction c with
  | skip =>
    intro s s' os os' ls ls' e vc h hv ι a w hr hn
    simp only [evC, Option.some.injEq, Prod.mk.injEq] at h
    obtain ⟨rfl, rfl, rfl, rfl, rfl⟩ := h
    exact wp_skip ⟨rfl, ι, hr, ExtN.refl w (by rw [hr.rh.len]; exact hn), hn⟩
  | region id ops draw =>
    intro s s' os os' ls ls' e vc h hv ι a w hr hn
    have hnl : n0 ≤ ι.length := by rw [hr.rh.len]; exact hn
    obtain ⟨ops⟩ := ops
    cases draw with
    | false =>
      simp only [evC] at h
      split at h
      · rename_i s1 os1 vc1 h1
        simp only [Option.some.injEq, Prod.mk.injEq] at h
        obtain ⟨rfl, rfl, rfl, rfl, rfl⟩ := h
        exact wp_region_text h1 hv hr fun ι' a' w' g1 g2 => ⟨rfl, ι', g1, ExtN.of_ext hnl g2, Nat.le_trans hn (Ext.len hr.rh g2)⟩
      · cases h
    | true =>
      simp only [evC] at h
      split at h
      · rename_i s1 os1 vc1 h1
        simp only [Option.some.injEq, Prod.mk.injEq] at h
        obtain ⟨rfl, rfl, rfl, rfl, rfl⟩ := h
        exact wp_region_drawn hm h1 hv hr fun ι' a' w' g1 g2 => ⟨rfl, ι', g1, ExtN.of_ext hnl g2, Nat.le_trans hn (Ext.len hr.rh g2)⟩
      · cases h
  | seq x y ihx ihy =>
    intro s s' os os' ls ls' e vc h hv ι a w hr hn
    simp only [evC] at h
    split at h
    · rename_i os1 m s0 s1 r hg
      split at h
      · rename_i vc1 hf
        split at h
        · rename_i e2 s2 os2 ls2 vc2 h2
          simp only [Option.some.injEq, Prod.mk.injEq] at h
          obtain ⟨rfl, rfl, rfl, rfl, rfl⟩ := h
          obtain ⟨v1, v2⟩ := allP_app hv
          obtain ⟨ι1, g1, g2, g3⟩ := fit_sound hr hn hf v1
          refine wp_seq (PW.trans_ext g1 g3 v2.1 fun ι2 a2 w2 k1 k2 k3 => ?_)
          exact PW.trans_ext k1 k3 (ihy h2 v2.2) fun ι3 a3 w3 j1 j2 j3 => ⟨rfl, ι3, j1, g2.trans (k2.trans j2), j3⟩
        · cases h
      · cases h
    · cases h
    split at h
    · rename_i s1 os1 ls1 vc1 h1
      split at h
      · rename_i e2 s2 os2 ls2 vc2 h2
        simp only [Option.some.injEq, Prod.mk.injEq] at h
        obtain ⟨rfl, rfl, rfl, rfl, rfl⟩ := h
        obtain ⟨v1, v2⟩ := allP_app hv
        refine wp_seq (PW.trans_ext hr hn (ihx h1 v1) fun ι1 a1 w1 g1 g2 g3 => ?_)
        exact PW.trans_ext g1 g3 (ihy h2 v2) fun ι2 a2 w2 k1 k2 k3 => ⟨rfl, ι2, k1, g2.trans k2, k3⟩
      · cases h
    · rename_i r hr'
      refine wp_seq (PW.trans_ext hr hn (ihx h hv) fun ι1 a1 w1 g1 g2 g3 => ?_)
      have : e ≠ .normal := by
        intro he; subst he
        exact hr' _ _ _ _ h
      cases e <;> first | exact absurd rfl this | exact ⟨rfl, ι1, g1, g2, g3⟩
  | cond c x y ihx ihy =>
    intro s s' os os' ls ls' e vc h hv ι a w hr hn
    simp only [evC] at h
    split at h
    · rename_i t r hc
      split at h
      · rename_i e1 s1 os1 ls1 vc1 h1
        simp only [Option.some.injEq, Prod.mk.injEq] at h
        obtain ⟨rfl, rfl, rfl, rfl, rfl⟩ := h
        obtain ⟨rfl, v1⟩ := hv
        have he := EnvOk.of_rel hr _ _ hc
        have : a.eval c = .bool true := vr_bool_inv he
        exact wp_cond_true this (ihx h1 v1 ι a w hr hn)
      · cases h
    · rename_i t r hc
      split at h
      · rename_i e1 s1 os1 ls1 vc1 h1
        simp only [Option.some.injEq, Prod.mk.injEq] at h
        obtain ⟨rfl, rfl, rfl, rfl, rfl⟩ := h
        obtain ⟨rfl, v1⟩ := hv
        have he := EnvOk.of_rel hr _ _ hc
        have : a.eval c = .bool false := vr_bool_inv he
        exact wp_cond_false this (ihy h1 v1 ι a w hr hn)
      · cases h
    · cases h
  | block id x ih =>
    intro s s' os os' ls ls' e vc h hv ι a w hr hn
    simp only [evC] at h
    split at h
    · rename_i id' s1 os1 ls1 vc1 h1
      cases hb : Nat.beq id' id with
      | true =>
        have hid := Nat.eq_of_beq_eq_true hb
        subst hid
        simp only [hb, cond_true, Option.some.injEq, Prod.mk.injEq] at h
        obtain ⟨rfl, rfl, rfl, rfl, rfl⟩ := h
        refine wp_block (PW.trans_ext hr hn (ih h1 hv) fun ι1 a1 w1 g1 g2 g3 => ?_)
        simp only [Exit.inBlock, if_true]
        exact ⟨trivial, ι1, g1, g2, g3⟩
      | false =>
        simp only [hb, cond_false, Option.some.injEq, Prod.mk.injEq] at h
        obtain ⟨rfl, rfl, rfl, rfl, rfl⟩ := h
        refine wp_block (PW.trans_ext hr hn (ih h1 hv) fun ι1 a1 w1 g1 g2 g3 => ?_)
        have : id' ≠ id := fun e => by subst e; simp at hb
        simp only [Exit.inBlock, if_neg this]
        exact ⟨trivial, ι1, g1, g2, g3⟩
    · rename_i r hr'
      refine wp_block (PW.trans_ext hr hn (ih h hv) fun ι1 a1 w1 g1 g2 g3 => ?_)
      cases e with
      | exit id' => exact absurd h (hr' _ _ _ _ _)
      | _ => exact ⟨rfl, ι1, g1, g2, g3⟩
  | loop x ih =>
    intro s s' os os' ls ls' e vc h hv ι a w hr hn
    simp only [evC] at h
    split at h
    · rename_i m s0 e1 s1 r
      split at h
      · rename_i vc1 hf
        simp only [Option.some.injEq, Prod.mk.injEq] at h
        obtain ⟨rfl, rfl, rfl, rfl, rfl⟩ := h
        obtain ⟨v1, v2⟩ := allP_app hv
        obtain ⟨ι1, g1, g2, g3⟩ := fit_sound hr hn hf v1
        exact PW.trans_ext g1 g3 v2.1 fun ι2 a2 w2 k1 k2 k3 => ⟨rfl, ι2, k1, g2.trans k2, k3⟩
      · cases h
    · cases h
  | exit id =>
    intro s s' os os' ls ls' e vc h hv ι a w hr hn
    simp only [evC, Option.some.injEq, Prod.mk.injEq] at h
    obtain ⟨rfl, rfl, rfl, rfl, rfl⟩ := h
    exact wp_exit ⟨rfl, ι, hr, ExtN.refl w (by rw [hr.rh.len]; exact hn), hn⟩
  | ret =>
    intro s s' os os' ls ls' e vc h hv ι a w hr hn
    simp only [evC, Option.some.injEq, Prod.mk.injEq] at h
    obtain ⟨rfl, rfl, rfl, rfl, rfl⟩ := h
    exact wp_ret ⟨rfl, ι, hr, ExtN.refl w (by rw [hr.rh.len]; exact hn), hn⟩
  | _ => intro s s' os os' ls ls' e vc h; simp [evC] at h

/-- A piece of code that is evaluated and whose end is taken as another state. -/
theorem PW.of_ev (hm : P.follows .mixedOrders = true) {c : Code} {s s1 s' : St} {os os' : List Orc} {ls ls' : List (List (Option Nat) × St × Exit × St)} {e : Exit} {vc vc' : List Prop} (m : List (Option Nat))
    (h : evC P N n0 c s os ls = some (e, s1, os', ls', vc)) (hv : AllP vc) (hf : fit n0 m s1 s' = some vc') (hv' : AllP vc') : PW P N n0 c s e s' := by
  intro ι a w hr hn
  refine PW.trans_ext hr hn (evC_sound hm h hv) fun ι1 a1 w1 g1 g2 g3 => ?_
  obtain ⟨ι2, k1, k2, k3⟩ := fit_sound g1 g3 hf hv'
  exact ⟨rfl, ι2, k1, g2.trans k2, k3⟩

/-- A loop: 'n' whole rounds, and one that leaves. -/
theorem PW.loop {c : Code} {I : Nat → St} {e : Exit} {s' : St} (n : Nat) (he : e ≠ .normal) (hb : ∀ k, k < n → PW P N n0 c (I k) .normal (I (k + 1))) (hx : PW P N n0 c (I n) e s') : PW P N n0 (.loop c) (I 0) e s' := by
  intro ι a w hr hn
  refine wp_loop_rounds (n + 1) ?_
  have key : ∀ (d k : Nat), k + d = n → ∀ (ι1 : List Place) (a1 : Act) (w1 : World), Rel N ι1 (I k) a1 w1 → n0 ≤ (I k).hp.length → ExtN n0 ι (I 0).hp w ι1 (I k).hp w1 →
      Code.rounds P c (fun e' a' w' => e' = e ∧ ∃ ι', Rel N ι' s' a' w' ∧ ExtN n0 ι (I 0).hp w ι' s'.hp w' ∧ n0 ≤ s'.hp.length) (d + 1) a1 w1 := by
    intro d
    induction d with
    | zero =>
      intro k hk ι1 a1 w1 h1 h2 h3
      have : k = n := by omega
      subst this
      rw [rounds_succ]
      refine PW.trans_ext h1 h2 hx fun ι2 a2 w2 k1 k2 k3 => ?_
      cases e <;> first | exact absurd rfl he | exact ⟨rfl, ι2, k1, h3.trans k2, k3⟩
    | succ d ih =>
      intro k hk ι1 a1 w1 h1 h2 h3
      rw [rounds_succ]
      exact PW.trans_ext h1 h2 (hb k (by omega)) fun ι2 a2 w2 k1 k2 k3 => ih (k + 1) (by omega) ι2 a2 w2 k1 k3 (h3.trans k2)
  exact key n 0 (by omega) ι a w hr hn (ExtN.refl w (by rw [hr.rh.len]; exact hn))

/-! ### Functions -/

def argsEnv : Nat → List Value → Env
  | _, [] => []
  | k, v :: l => (k, v) :: argsEnv (k + 1) l

theorem look_argsEnv : ∀ {l : List Value} {k t : Nat} {v : Value}, look t (argsEnv k l) = some v → k ≤ t ∧ l[t - k]? = some v
  | [], k, t, v, h => by simp [argsEnv, look] at h
  | x :: l, k, t, v, h => by
    simp only [argsEnv, look] at h
    cases hb : Nat.beq t k with
    | true =>
      have := Nat.eq_of_beq_eq_true hb; subst this
      simp only [hb, cond_true, Option.some.injEq] at h; subst h
      simp
    | false =>
      simp only [hb, cond_false] at h
      obtain ⟨h1, h2⟩ := look_argsEnv h
      exact ⟨by omega, by rw [show t - k = (t - (k + 1)) + 1 from by omega]; simpa using h2⟩

/-- One result: a temporary, or what stands where one leads. -/
def evR (P : Program) (H : Heap) (e : Env) : ResultVar → Option (Value × List Prop)
  | .tmp t => match look t e with
    | some v => some (v, [])
    | none => none
  | .cell a t => match look a e with
    | some x => evLoad P H t x
    | none => none

def evRes (P : Program) (H : Heap) (e : Env) : List ResultVar → Option (Value × List Prop)
  | [] => some (.tuple ⟨[]⟩, [])
  | [r] => evR P H e r
  | [r, s] => match evR P H e r, evR P H e s with
    | some (a, va), some (b, vb) => some (.tuple ⟨[a, b]⟩, va ++ vb)
    | _, _ => none
  | [r, s, u] => match evR P H e r, evR P H e s, evR P H e u with
    | some (a, va), some (b, vb), some (c, vc) => some (.tuple ⟨[a, b, c]⟩, va ++ vb ++ vc)
    | _, _, _ => none
  | [.tmp r, .tmp s, .tmp u, .tmp q] => match evR P H e (.tmp r), evR P H e (.tmp s), evR P H e (.tmp u), evR P H e (.tmp q) with
    | some (a, va), some (b, vb), some (c, vc), some (d, vd) => some (.tuple ⟨[a, b, c, d]⟩, va ++ vb ++ vc ++ vd)
    | _, _, _, _ => none
  | _ => none

/-- A call of a function with a body, told through. -/
def evF (P : Program) (fn : Func) (args : List Value) (H : Heap) (os : List Orc) (ls : List (List (Option Nat) × St × Exit × St)) (m : List (Option Nat)) (v : Value) (H' : Heap) : Option (List Prop) :=
  match fn.body with
  | some c => match evC P fn.ntmps H.length c ⟨argsEnv 0 args, H⟩ os ls with
    | some (e, s, _, _, vc) => match isEnd e, evRes P s.hp s.tm fn.results.toList with
      | true, some (r, vr) => bif Nat.ble args.length fn.ntmps then
          match fit H.length m ⟨[(0, r)], s.hp⟩ ⟨[(0, v)], H'⟩ with
          | some vc' => some (vc ++ vr ++ vc')
          | none => none
          else none
      | _, _ => none
    | none => none
  | none => none
where
  isEnd : Exit → Bool
    | .normal | .ret => true
    | _ => false

def ResRun (P : Program) (tmps : Array Value) (w : World) (v : Value) : ResultVar → Prop
  | .tmp t => v = tmps.getD t undef
  | .cell a t => ∃ ad, tmps.getD a undef = .pointer (some ad) ∧ (loadVar t ad).run P w = .ok v w

theorem evR_sound {P : Program} {H : Heap} {e : Env} {rv : ResultVar} {r : Value} {vc : List Prop} {ι : List Place} {tmps : Array Value} {w : World} (h : evR P H e rv = some (r, vc)) (hv : AllP vc)
    (henv : ∀ t v, look t e = some v → VR ι v (tmps.getD t undef)) (hrh : RH ι H w) :
    ∃ v, ResRun P tmps w v rv ∧ VR ι r v := by
  cases rv with
  | tmp t =>
    simp only [evR] at h
    split at h
    · rename_i v hl
      simp only [Option.some.injEq, Prod.mk.injEq] at h
      obtain ⟨rfl, rfl⟩ := h
      exact ⟨_, rfl, henv _ _ hl⟩
    · cases h
  | cell a t =>
    simp only [evR] at h
    split at h
    · rename_i x hl
      obtain ⟨ad, v', h1, h2, h3⟩ := evLoad_var h hv (henv _ _ hl) hrh
      exact ⟨v', ⟨ad, h1, h2⟩, h3⟩
    · cases h

theorem results_run1 {fn : Func} {P : Program} {tmps : Array Value} {w : World} {r : ResultVar} {x : Value} (h : fn.results = #[r]) (hx : ResRun P tmps w x r) : (results fn tmps).run P w = .ok x w := by
  cases r with
  | tmp t => simp only [ResRun] at hx; subst hx; simp [results, h]
  | cell a t => obtain ⟨ad, h1, h2⟩ := hx; simp only [Array.getD_eq_getD_getElem?] at h1; simp [results, h, h1, asAddr, h2]

theorem results_run2 {fn : Func} {P : Program} {tmps : Array Value} {w : World} {r s : ResultVar} {x y : Value} (h : fn.results = #[r, s]) (hx : ResRun P tmps w x r) (hy : ResRun P tmps w y s) : (results fn tmps).run P w = .ok (.tuple #[x, y]) w := by
  cases r with
  | tmp t =>
    simp only [ResRun] at hx; subst hx
    cases s with
    | tmp u => simp only [ResRun] at hy; subst hy; simp [results, h]
    | cell b u => obtain ⟨bd, g1, g2⟩ := hy; simp only [Array.getD_eq_getD_getElem?] at g1; simp [results, h, g1, asAddr, g2]
  | cell a t =>
    obtain ⟨ad, h1, h2⟩ := hx
    simp only [Array.getD_eq_getD_getElem?] at h1
    cases s with
    | tmp u => simp only [ResRun] at hy; subst hy; simp [results, h, h1, asAddr, h2]
    | cell b u => obtain ⟨bd, g1, g2⟩ := hy; simp only [Array.getD_eq_getD_getElem?] at g1; simp [results, h, h1, g1, asAddr, h2, g2]

theorem results_run3 {fn : Func} {P : Program} {tmps : Array Value} {w : World} {r s q : ResultVar} {x y z : Value} (h : fn.results = #[r, s, q]) (hx : ResRun P tmps w x r) (hy : ResRun P tmps w y s) (hz : ResRun P tmps w z q) :
    (results fn tmps).run P w = .ok (.tuple #[x, y, z]) w := by
  cases r <;> cases s <;> cases q <;>
  · simp only [ResRun, Array.getD_eq_getD_getElem?] at hx hy hz
    first
    | (subst hx; subst hy; subst hz; simp [results, h]; done)
    | (obtain ⟨ad, h1, h2⟩ := hx; subst hy; subst hz; simp [results, h, h1, asAddr, h2]; done)
    | (subst hx; obtain ⟨ad, h1, h2⟩ := hy; subst hz; simp [results, h, h1, asAddr, h2]; done)
    | (subst hx; subst hy; obtain ⟨ad, h1, h2⟩ := hz; simp [results, h, h1, asAddr, h2]; done)
    | (obtain ⟨bd, g1, g2⟩ := hx; obtain ⟨ad, h1, h2⟩ := hy; subst hz; simp [results, h, h1, g1, asAddr, h2, g2]; done)
    | (obtain ⟨bd, g1, g2⟩ := hx; subst hy; obtain ⟨ad, h1, h2⟩ := hz; simp [results, h, h1, g1, asAddr, h2, g2]; done)
    | (subst hx; obtain ⟨bd, g1, g2⟩ := hy; obtain ⟨ad, h1, h2⟩ := hz; simp [results, h, h1, g1, asAddr, h2, g2]; done)
    | (obtain ⟨cd, k1, k2⟩ := hx; obtain ⟨bd, g1, g2⟩ := hy; obtain ⟨ad, h1, h2⟩ := hz; simp [results, h, h1, g1, k1, asAddr, h2, g2, k2]; done)

theorem results_run4 {fn : Func} {P : Program} {tmps : Array Value} {w : World} {r s q u : Nat} {x y z a : Value} (h : fn.results = #[.tmp r, .tmp s, .tmp q, .tmp u]) (hx : ResRun P tmps w x (.tmp r)) (hy : ResRun P tmps w y (.tmp s)) (hz : ResRun P tmps w z (.tmp q)) (ha : ResRun P tmps w a (.tmp u)) :
    (results fn tmps).run P w = .ok (.tuple #[x, y, z, a]) w := by
  simp only [ResRun, Array.getD_eq_getD_getElem?] at hx hy hz ha
  subst hx; subst hy; subst hz; subst ha; simp [results, h]

theorem evRes_sound {fn : Func} {P : Program} {H : Heap} {e : Env} {r : Value} {vc : List Prop} {ι : List Place} {tmps : Array Value} {w : World} (h : evRes P H e fn.results.toList = some (r, vc)) (hv : AllP vc)
    (henv : ∀ t v, look t e = some v → VR ι v (tmps.getD t undef)) (hrh : RH ι H w) :
    ∃ v, (results fn tmps).run P w = .ok v w ∧ VR ι r v := by
  generalize hl : fn.results.toList = l at h
  have hfn : fn.results = l.toArray := by rw [← hl]
  unfold evRes at h
  split at h
  · cases h; exact ⟨_, results_none hfn tmps P w, .tuple .nil⟩
  · obtain ⟨v, h1, h2⟩ := evR_sound h hv henv hrh
    exact ⟨v, results_run1 hfn h1, h2⟩
  · split at h
    · rename_i a va b vb ha hb
      simp only [Option.some.injEq, Prod.mk.injEq] at h
      obtain ⟨rfl, rfl⟩ := h
      obtain ⟨v1, v2⟩ := allP_app hv
      obtain ⟨x, h1, h2⟩ := evR_sound ha v1 henv hrh
      obtain ⟨y, h3, h4⟩ := evR_sound hb v2 henv hrh
      exact ⟨.tuple #[x, y], results_run2 hfn h1 h3, .tuple (.cons h2 (.cons h4 .nil))⟩
    · cases h
  · split at h
    · rename_i a va b vb c vc' ha hb hc
      simp only [Option.some.injEq, Prod.mk.injEq] at h
      obtain ⟨rfl, rfl⟩ := h
      obtain ⟨v1, v3⟩ := allP_app hv
      obtain ⟨v1, v2⟩ := allP_app v1
      obtain ⟨x, h1, h2⟩ := evR_sound ha v1 henv hrh
      obtain ⟨y, h3, h4⟩ := evR_sound hb v2 henv hrh
      obtain ⟨z, h5, h6⟩ := evR_sound hc v3 henv hrh
      exact ⟨.tuple #[x, y, z], results_run3 hfn h1 h3 h5, .tuple (.cons h2 (.cons h4 (.cons h6 .nil)))⟩
    · cases h
  · split at h
    · rename_i a va b vb c vc' d vd ha hb hc hd
      simp only [Option.some.injEq, Prod.mk.injEq] at h
      obtain ⟨rfl, rfl⟩ := h
      obtain ⟨v1, v4⟩ := allP_app hv
      obtain ⟨v1, v3⟩ := allP_app v1
      obtain ⟨v1, v2⟩ := allP_app v1
      obtain ⟨x, h1, h2⟩ := evR_sound ha v1 henv hrh
      obtain ⟨y, h3, h4⟩ := evR_sound hb v2 henv hrh
      obtain ⟨z, h5, h6⟩ := evR_sound hc v3 henv hrh
      obtain ⟨u, h7, h8⟩ := evR_sound hd v4 henv hrh
      exact ⟨.tuple #[x, y, z, u], results_run4 hfn h1 h3 h5 h7, .tuple (.cons h2 (.cons h4 (.cons h6 (.cons h8 .nil))))⟩
    · cases h
  · cases h

theorem Ev.of (hm : P.follows .mixedOrders = true) {f : FuncId} {fn : Func} {args : List Value} {H H' : Heap} {v : Value} (os : List Orc) (ls : List (List (Option Nat) × St × Exit × St)) (m : List (Option Nat)) {vc : List Prop}
    (hf : P.funcs[f]? = some fn) (hname : (fn.name == "runtime.NumGoroutine") = false) (h : evF P fn args H os ls m v H' = some vc) (hv : AllP vc) : Ev P f args H v H' := by
  intro ι w args' hrh hargs
  unfold evF at h
  split at h
  · rename_i c hb
    split at h
    · rename_i e s os' ls' vc1 hev
      split at h
      · rename_i r vr hend hres
        cases hle : Nat.ble args.length fn.ntmps with
        | false => simp [hle] at h
        | true =>
          simp only [hle, cond_true] at h
          split at h
          · rename_i vc2 hfit
            simp only [Option.some.injEq] at h; subst h
            obtain ⟨v1, v2⟩ := allP_app hv
            obtain ⟨v1, vr1⟩ := allP_app v1
            have hal : args'.length ≤ fn.ntmps := by rw [← hargs.length]; exact Nat.le_of_ble_eq_true hle
            refine ⟨?_, calls_of_wp hf hb ?_⟩
            · have h1 : fn.name ≠ "runtime.NumGoroutine" := by simpa using hname
              simp [callFunc, hf, h1, hb]
            · have hrel : Rel fn.ntmps ι ⟨argsEnv 0 args, H⟩ { tmps := (⟨args'⟩ : Array Value) ++ Array.replicate (fn.ntmps - (⟨args'⟩ : Array Value).size) undef, defers := [] } w := by
                refine ⟨?_, rfl, fun t u ht => ?_, hrh⟩
                · simp; omega
                · obtain ⟨_, g⟩ := look_argsEnv ht
                  simp only [Nat.sub_zero] at g
                  obtain ⟨u', g1, g2⟩ := hargs.get t u g
                  have hlt := some_lt g1
                  refine ⟨by omega, ?_⟩
                  rw [Array.getD_eq_getD_getElem?, Array.getElem?_append_left (by simpa using hlt)]
                  simp only [List.getElem?_toArray, g1, Option.getD_some]
                  exact g2
              refine PW.trans_ext hrel (Nat.le_refl _) (evC_sound hm hev v1) fun ι1 a1 w1 g1 g2 g3 => ?_
              obtain ⟨u, k1, k2⟩ := evRes_sound hres vr1 (fun t v ht => (g1.env t v ht).2) g1.rh
              have hrel2 : Rel 1 ι1 ⟨[(0, r)], s.hp⟩ { tmps := #[u], defers := [] } w1 := by
                refine ⟨rfl, rfl, fun t x ht => ?_, g1.rh⟩
                simp only [look] at ht
                cases hb : Nat.beq t 0 with
                | false => simp [hb] at ht
                | true =>
                  have := Nat.eq_of_beq_eq_true hb; subst this
                  simp only [hb, cond_true, Option.some.injEq] at ht; subst ht
                  exact ⟨Nat.zero_lt_one, k2⟩
              obtain ⟨ι2, j1, j2, j3⟩ := fit_sound hrel2 g3 hfit v2
              have hext := g2.trans j2
              obtain ⟨l, hl⟩ := hext.pre
              have hpre : ι.take H.length = ι := by rw [← hrh.len]; exact List.take_length
              have hr2 := (j1.env 0 v (by rfl)).2
              have done : ∃ ι' v', Ending.returned u = .returned v' ∧ VR ι' v v' ∧ Ext ι H w ι' H' w1 :=
                ⟨ι2, u, rfl, hr2, ⟨l, by rw [hl, hpre]⟩, j1.rh, hext.fr, hext.fresh⟩
              cases e with
              | normal => exact ⟨g1.defers, u, k1, done⟩
              | ret => exact ⟨g1.defers, u, k1, done⟩
              | exit _ => simp [evF.isEnd] at hend
              | goto _ => simp [evF.isEnd] at hend
              | panic _ => simp [evF.isEnd] at hend
              | outgrown => simp [evF.isEnd] at hend
          · cases h
      · cases h
    · cases h
  · cases h

end
end Go.Sim
end

section
namespace Go.Sim
open Go

abbrev Lp := List (List (Option Nat) × St × Exit × St)

/-- A piece of code told through, its end taken as another state. -/
def evL (P : Program) (N n0 : Nat) (c : Code) (s : St) (os : List Orc) (ls : Lp) (m : List (Option Nat)) (e : Exit) (s' : St) : Option (List Prop) :=
  match evC P N n0 c s os ls with
  | some (e', s1, _, _, vc) => bif sameE e' e then
      match fit n0 m s1 s' with
      | some vc' => some (vc ++ vc')
      | none => none
      else none
  | none => none
where
  sameE : Exit → Exit → Bool
    | .normal, .normal => true
    | .ret, .ret => true
    | .exit i, .exit j => Nat.beq i j
    | _, _ => false

theorem sameE_eq {a b : Exit} (h : evL.sameE a b = true) : a = b := by
  cases a <;> cases b <;> first | rfl | (simp [evL.sameE] at h; done) | (simp only [evL.sameE] at h; rw [Nat.eq_of_beq_eq_true h])

theorem PW.of_evL {P : Program} {N n0 : Nat} (hm : P.follows .mixedOrders = true) {c : Code} {s s' : St} {e : Exit} {vc : List Prop} (os : List Orc) (ls : Lp) (m : List (Option Nat))
    (h : evL P N n0 c s os ls m e s' = some vc) (hv : AllP vc) : PW P N n0 c s e s' := by
  unfold evL at h
  split at h
  · rename_i e' s1 os' ls' vc1 hev
    cases hs : evL.sameE e' e with
    | false => simp [hs] at h
    | true =>
      simp only [hs, cond_true] at h
      split at h
      · rename_i vc2 hf
        simp only [Option.some.injEq] at h; subst h
        obtain ⟨v1, v2⟩ := allP_app hv
        have := sameE_eq hs
        subst this
        exact PW.of_ev hm m hev v1 hf v2
      · cases h
  · cases h

/-- A part of code: 0 the first, 1 the second of two. -/
def sub : List Nat → Code → Code
  | [], c => c
  | i :: l, .seq a b => bif Nat.beq i 0 then sub l a else sub l b
  | i :: l, .cond _ a b => bif Nat.beq i 0 then sub l a else sub l b
  | _ :: l, .block _ a => sub l a
  | _ :: l, .loop a => sub l a
  | _ :: l, .scope a => sub l a
  | _ :: _, c => c

def bodyOf (fn : Func) : Code := fn.body.getD .skip

theorem inR64 {n : Int} (h : -9223372036854775808 ≤ n) (g : n ≤ 9223372036854775807) : inR .i64 n := ⟨h, g⟩
theorem inRu64 {n : Int} (h : 0 ≤ n) (g : n ≤ 18446744073709551615) : inR .u64 n := ⟨h, g⟩

/-- All below 'n' pass. -/
def allBelow (p : Nat → Bool) : Nat → Bool
  | 0 => true
  | n + 1 => allBelow p n && p n

theorem allBelow_true {p : Nat → Bool} : ∀ {n : Nat}, allBelow p n = true ↔ ∀ k, k < n → p k = true
  | 0 => by simp [allBelow]
  | n + 1 => by
    simp only [allBelow, Bool.and_eq_true, allBelow_true (n := n)]
    constructor
    · rintro ⟨h, g⟩ k hk
      rcases Nat.lt_or_ge k n with h' | h'
      · exact h k h'
      · have : k = n := by omega
        rw [this]; exact g
    · exact fun h => ⟨fun k hk => h k (by omega), h n (by omega)⟩

/-- The first below 'n' that does not pass; 'n' where all pass. -/
def firstF (p : Nat → Bool) : Nat → Nat
  | 0 => 0
  | n + 1 => if allBelow p n then (if p n then n + 1 else n) else firstF p n

theorem firstF_spec {p : Nat → Bool} : ∀ {n : Nat}, allBelow p n = false → firstF p n < n ∧ p (firstF p n) = false ∧ ∀ k, k < firstF p n → p k = true
  | 0, h => by simp [allBelow] at h
  | n + 1, h => by
    simp only [allBelow, Bool.and_eq_false_iff] at h
    cases hb : allBelow p n with
    | true =>
      rcases h with h | h
      · rw [hb] at h; cases h
      · simp only [firstF, hb, h, if_true]
        exact ⟨by simp, by simpa using h, fun k hk => allBelow_true.1 hb k (by simpa using hk)⟩
    | false =>
      obtain ⟨h1, h2, h3⟩ := firstF_spec hb
      simp only [firstF, hb]
      exact ⟨by simp; omega, by simpa using h2, fun k hk => h3 k (by simpa using hk)⟩

theorem firstF_lt {p : Nat → Bool} {n : Nat} (h : allBelow p n = false) : firstF p n < n := (firstF_spec h).1
theorem firstF_false {p : Nat → Bool} {n : Nat} (h : allBelow p n = false) : p (firstF p n) = false := (firstF_spec h).2.1
theorem firstF_before {p : Nat → Bool} {n : Nat} (h : allBelow p n = false) : ∀ k, k < firstF p n → p k = true := (firstF_spec h).2.2

end Go.Sim
end
