/- What the program's small functions of numbers compute, in plain Lean. Conditions: none. -/
import Derived.Test.YtgjdkhocnnoimaaS19
namespace Go.Sim
open Go

theorem and_tt {a b : Bool} (h : a = true) (g : b = true) : (a && b) = true := by rw [h, g]; rfl
theorem and_fl {a b : Bool} (h : a = false) : (a && b) = false := by rw [h]; rfl
theorem and_fr {a b : Bool} (g : b = false) : (a && b) = false := by rw [g]; exact Bool.and_false a

theorem div_round {k n b : Nat} (h : k < n / b) : k * b + b ≤ n := by
  have h1 : (k + 1) * b ≤ n := by
    rcases Nat.eq_zero_or_pos b with rfl | hb
    · simp
    · exact (Nat.le_div_iff_mul_le hb).1 h
  rw [Nat.succ_mul] at h1; exact h1
theorem succ_mulN (k b : Nat) : (k + 1) * b = k * b + b := Nat.succ_mul k b
theorem div_end {n b : Nat} (h : 0 < b) : n < (n / b) * b + b := by
  have := Nat.lt_div_mul_add (a := n) h; omega
/-- A float32 that is a number and not too great. -/
def fin32 (x : Nat) : Bool := fcmp .eql .f32 (fop .sub .f32 x x) 0

/-- Two float64 words are the same number (not-a-number is one; the zeros are two). -/
def sameD (a b : Nat) : Bool :=
  bif fcmp .neq .f64 a a || fcmp .neq .f64 b b then fcmp .neq .f64 a a && fcmp .neq .f64 b b
  else bif fcmp .eql .f64 a 0 && fcmp .eql .f64 b 0 then fcmp .gtr .f64 (fop .quo .f64 4607182418800017408 a) 0 == fcmp .gtr .f64 (fop .quo .f64 4607182418800017408 b) 0
  else fcmp .eql .f64 a b

theorem fcmp_neq (k : FloatKind) (a b : Nat) : fcmp .neq k a b = !(fcmp .eql k a b) := by
  cases k <;> (unfold fcmp; first | rfl | (simp; done) | (split <;> rfl))

theorem sameD_self (a : Nat) : sameD a a = true := by
  unfold sameD
  rw [fcmp_neq]
  cases fcmp .eql .f64 a a <;> simp

def rampF (x : Nat) : Nat :=
  bif fcmp .lss .f32 x 0 then 0 else bif fcmp .gtr .f32 x 1065353216 then 1065353216
  else fop .mul .f32 (fop .mul .f32 x x) (fop .sub .f32 1077936128 (fop .mul .f32 1073741824 x))

/-- A list written place by place. -/
theorem copy_all (xs : List Nat) (n : Nat) (h : xs.length = n) (S : Nat → List Nat) (h0 : S 0 = List.replicate n 0) (hs : ∀ k, S (k + 1) = (S k).set k (xs.getD k 0)) : S n = xs := by
  subst h
  have key : ∀ k, k ≤ xs.length → S k = xs.take k ++ List.replicate (xs.length - k) 0 := by
    intro k
    induction k with
    | zero => intro _; rw [h0]; simp
    | succ k ih =>
      intro hk
      rw [hs, ih (by omega)]
      have h1 : xs.length - k = (xs.length - (k + 1)) + 1 := by omega
      have h2 : k < xs.length := by omega
      rw [h1, List.replicate_succ]
      rw [List.set_append_right _ _ (by simp; omega)]
      simp only [List.length_take, Nat.min_eq_left (Nat.le_of_lt h2), Nat.sub_self, List.set_cons_zero]
      have e : xs.getD k 0 = xs[k] := by simp [h2]
      rw [e, ← List.take_append_getElem h2, List.append_assoc, List.singleton_append]
  rw [key xs.length (Nat.le_refl _)]; simp

/-- Two lists of float32 are the same, number by number. -/
def sameL (xs ys : List Nat) : Bool :=
  (xs.length == ys.length) && allBelow (fun k => sameD (fcv .f32 .f64 (xs.getD k 0)) (fcv .f32 .f64 (ys.getD k 0))) xs.length

theorem sameL_self (xs : List Nat) : sameL xs xs = true := by
  simp only [sameL, beq_self_eq_true, Bool.true_and]
  exact allBelow_true.2 fun k _ => sameD_self _

def allFin (xs : List Nat) : Bool := allBelow (fun k => fin32 (xs.getD k 0)) xs.length

theorem allFin_good {xs : List Nat} {n : Nat} (h : xs.length = n) {p : Nat → Bool} (hp : ∀ k, p k = fin32 (xs.getD k 0)) : allBelow p n = allFin xs := by
  subst h
  unfold allFin
  rw [show p = fun k => fin32 (xs.getD k 0) from funext hp]

theorem allFin3 (a b c : Nat) : allFin [a, b, c] = (fin32 a && fin32 b && fin32 c) := by simp [allFin, allBelow]

def isSnd (xs : List Nat) : Bool := decide (xs.length ≤ 256) && allFin xs

theorem isSnd_len {xs : List Nat} (h : isSnd xs = true) : xs.length ≤ 256 := by
  simp only [isSnd, Bool.and_eq_true, decide_eq_true_eq] at h; exact h.1

/-- Byte 'n' of a text. -/
def strB (s : ByteArray) (n : Nat) : Int := ((s.data.toList.getD n 0).toNat : Int)

theorem strB_range (s : ByteArray) (n : Nat) : 0 ≤ strB s n ∧ strB s n ≤ 255 := by
  unfold strB
  have : (s.data.toList.getD n 0).toNat < 256 := UInt8.toNat_lt _
  omega

theorem if_not (b : Bool) : (if b = true then false else true) = !b := by cases b <;> rfl

def above0 (x : Nat) : Bool := fin32 x && fcmp .gtr .f32 x 0

def allAbv (xs : List Nat) : Bool := allBelow (fun k => above0 (xs.getD k 0)) xs.length

def accOk (a b c : Nat) : Bool := fin32 a && fin32 b && above0 c

end Go.Sim
