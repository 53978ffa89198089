/- A pure account of the values, floats and memory of a run, and how it stands to the model's (part 19: what the printed proofs lean on). Conditions: none. -/
import Derived.Test.YtgjdkhocnnoimaaS18
namespace Go.Sim
open Go

abbrev Lp := List (List (Option Nat) × St × Exit × St)

/-- A piece of code told through, its end taken as another state. -/
def evL (P : Program) (N n0 : Nat) (c : Code) (s : St) (os : List Orc) (ls : Lp) (m : List (Option Nat)) (e : Exit) (s' : St) : Option (List Prop) :=
  match evC P N n0 c s os ls with
  | some (e', s1, _, _, vc) => bif sameE e' e then
      match fit n0 m s1 s' with
      | some vc' => some (vc ++ vc')
      | none => none
      else none
  | none => none
where
  sameE : Exit → Exit → Bool
    | .normal, .normal => true
    | .ret, .ret => true
    | .exit i, .exit j => Nat.beq i j
    | _, _ => false

theorem sameE_eq {a b : Exit} (h : evL.sameE a b = true) : a = b := by
  cases a <;> cases b <;> first | rfl | (simp [evL.sameE] at h; done) | (simp only [evL.sameE] at h; rw [Nat.eq_of_beq_eq_true h])

theorem PW.of_evL {P : Program} {N n0 : Nat} (hm : P.follows .mixedOrders = true) {c : Code} {s s' : St} {e : Exit} {vc : List Prop} (os : List Orc) (ls : Lp) (m : List (Option Nat))
    (h : evL P N n0 c s os ls m e s' = some vc) (hv : AllP vc) : PW P N n0 c s e s' := by
  unfold evL at h
  split at h
  · rename_i e' s1 os' ls' vc1 hev
    cases hs : evL.sameE e' e with
    | false => simp [hs] at h
    | true =>
      simp only [hs, cond_true] at h
      split at h
      · rename_i vc2 hf
        simp only [Option.some.injEq] at h; subst h
        obtain ⟨v1, v2⟩ := allP_app hv
        have := sameE_eq hs
        subst this
        exact PW.of_ev hm m hev v1 hf v2
      · cases h
  · cases h

/-- A part of code: 0 the first, 1 the second of two. -/
def sub : List Nat → Code → Code
  | [], c => c
  | i :: l, .seq a b => bif Nat.beq i 0 then sub l a else sub l b
  | i :: l, .cond _ a b => bif Nat.beq i 0 then sub l a else sub l b
  | _ :: l, .block _ a => sub l a
  | _ :: l, .loop a => sub l a
  | _ :: l, .scope a => sub l a
  | _ :: _, c => c

def bodyOf (fn : Func) : Code := fn.body.getD .skip

theorem inR64 {n : Int} (h : -9223372036854775808 ≤ n) (g : n ≤ 9223372036854775807) : inR .i64 n := ⟨h, g⟩
theorem inRu64 {n : Int} (h : 0 ≤ n) (g : n ≤ 18446744073709551615) : inR .u64 n := ⟨h, g⟩

/-- All below 'n' pass. -/
def allBelow (p : Nat → Bool) : Nat → Bool
  | 0 => true
  | n + 1 => allBelow p n && p n

theorem allBelow_true {p : Nat → Bool} : ∀ {n : Nat}, allBelow p n = true ↔ ∀ k, k < n → p k = true
  | 0 => by simp [allBelow]
  | n + 1 => by
    simp only [allBelow, Bool.and_eq_true, allBelow_true (n := n)]
    constructor
    · rintro ⟨h, g⟩ k hk
      rcases Nat.lt_or_ge k n with h' | h'
      · exact h k h'
      · have : k = n := by omega
        rw [this]; exact g
    · exact fun h => ⟨fun k hk => h k (by omega), h n (by omega)⟩

theorem allBelow_false {p : Nat → Bool} {n j : Nat} (hj : j < n) (h : p j = false) : allBelow p n = false := by
  cases hb : allBelow p n with
  | false => rfl
  | true => rw [allBelow_true.1 hb j hj] at h; cases h

/-- The first below 'n' that does not pass; 'n' where all pass. -/
def firstF (p : Nat → Bool) : Nat → Nat
  | 0 => 0
  | n + 1 => if allBelow p n then (if p n then n + 1 else n) else firstF p n

theorem firstF_spec {p : Nat → Bool} : ∀ {n : Nat}, allBelow p n = false → firstF p n < n ∧ p (firstF p n) = false ∧ ∀ k, k < firstF p n → p k = true
  | 0, h => by simp [allBelow] at h
  | n + 1, h => by
    simp only [allBelow, Bool.and_eq_false_iff] at h
    cases hb : allBelow p n with
    | true =>
      rcases h with h | h
      · rw [hb] at h; cases h
      · simp only [firstF, hb, h, if_true]
        exact ⟨by simp, by simpa using h, fun k hk => allBelow_true.1 hb k (by simpa using hk)⟩
    | false =>
      obtain ⟨h1, h2, h3⟩ := firstF_spec hb
      simp only [firstF, hb]
      exact ⟨by simp; omega, by simpa using h2, fun k hk => h3 k (by simpa using hk)⟩

theorem firstF_lt {p : Nat → Bool} {n : Nat} (h : allBelow p n = false) : firstF p n < n := (firstF_spec h).1
theorem firstF_false {p : Nat → Bool} {n : Nat} (h : allBelow p n = false) : p (firstF p n) = false := (firstF_spec h).2.1
theorem firstF_before {p : Nat → Bool} {n : Nat} (h : allBelow p n = false) : ∀ k, k < firstF p n → p k = true := (firstF_spec h).2.2

end Go.Sim
