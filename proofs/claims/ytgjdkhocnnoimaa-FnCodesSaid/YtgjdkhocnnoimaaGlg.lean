/- The logarithm from 1 to 256. Conditions: none. -/

import Derived.Test.YtgjdkhocnnoimaaProg
import Derived.KernelRfl
import Derived.Test.YtgjdkhocnnoimaaGco
import Derived.Test.YtgjdkhocnnoimaaGab

set_option linter.unusedSimpArgs false

set_option linter.unusedVariables false

namespace Go.Sim

open Go Go.Proofs

def ev_logOf_L1_ctr : Nat → Nat
  | 0 => 0
  | k + 1 => fop .add .f64 (ev_logOf_L1_ctr k) 4607182418800017408

def ev_logOf_L1_step (x : Nat) (k1 : Nat) (s1 : Nat) : Nat := (fop .quo .f64 s1 4611686018427387904)

def ev_logOf_L1_S (x : Nat) : Nat → Nat
  | 0 => (fcv .f32 .f64 x)
  | k + 1 => ev_logOf_L1_step x k (ev_logOf_L1_S x k)

theorem log_s1 (x : Nat) : ∀ k, ev_logOf_L1_S x k = halve (fcv .f32 .f64 x) k := by
  intro k
  induction k with
  | zero => rfl
  | succ k ih => simp only [ev_logOf_L1_S, ev_logOf_L1_step, halve, ih]

def ev_logOf_L1_n (x : Nat) : Nat := firstF (fun k => (fcmp .geq .f64 (ev_logOf_L1_S x k) 4609434218613702656)) 9

theorem ev_logOf_L1_ends (x : Nat)  (hv : Iv .f64 (fcv .f32 .f64 x) 4607182418800017408 4643211215818981376) : allBelow (fun k => (fcmp .geq .f64 (ev_logOf_L1_S x k) 4609434218613702656)) 9 = false := (by simp only [log_s1]; exact halve_ends hv)

theorem ev_logOf_L1_nlt (x : Nat)  (hv : Iv .f64 (fcv .f32 .f64 x) 4607182418800017408 4643211215818981376) : (ev_logOf_L1_n x) < 9 := firstF_lt (ev_logOf_L1_ends x hv)

def ev_logOf_L1_I (x : Nat) (k1 : Nat) (s1 : Nat) : St := ⟨[(0, .float .f32 x), (2, .float .f64 0), (3, .float .f64 s1), (4, .float .f64 (ev_logOf_L1_ctr k1))], []⟩

theorem ev_logOf_L1_body (x : Nat)  (hv : Iv .f64 (fcv .f32 .f64 x) 4607182418800017408 4643211215818981376) (k1 : Nat) (s1 : Nat)  (hk_k1 : k1 < (ev_logOf_L1_n x)) (hw_k1 : (fcmp .geq .f64 s1 4609434218613702656) = true)  : PW Try.prog 48 0 (sub [1, 1, 0, 0, 0] (bodyOf Try.f196)) (ev_logOf_L1_I x k1 s1) .normal (ev_logOf_L1_I x (k1 + 1) (ev_logOf_L1_step x k1 s1)) := by
  have a0 := (ev_logOf_L1_nlt x hv)
  have e : evL Try.prog 48 0 (sub [1, 1, 0, 0, 0] (bodyOf Try.f196)) (ev_logOf_L1_I x k1 s1) [.b true] [] [] .normal (ev_logOf_L1_I x (k1 + 1) (ev_logOf_L1_step x k1 s1)) = some [((fcmp .geq .f64 s1 4609434218613702656) = true), (x = x), (0 = 0), ((fop .quo .f64 s1 4611686018427387904) = (ev_logOf_L1_step x k1 s1)), ((fop .add .f64 (ev_logOf_L1_ctr k1) 4607182418800017408) = (ev_logOf_L1_ctr (k1 + 1)))] := by kernel_rfl
  exact PW.of_evL mixed _ _ _ e ⟨hw_k1, rfl, rfl, (by first | (simp [-List.getD_eq_getElem?_getD, ev_logOf_L1_step]; done) | (simp_all [-List.getD_eq_getElem?_getD, ev_logOf_L1_step]; done)), rfl, trivial⟩

theorem ev_logOf_L1_end (x : Nat)  (hv : Iv .f64 (fcv .f32 .f64 x) 4607182418800017408 4643211215818981376) (s1 : Nat)  (hw : (fcmp .geq .f64 s1 4609434218613702656) = false) : PW Try.prog 48 0 (sub [1, 1, 0, 0, 0] (bodyOf Try.f196)) (ev_logOf_L1_I x (ev_logOf_L1_n x) s1) (.exit 0) ⟨[(0, .float .f32 x), (2, .float .f64 0), (3, .float .f64 s1), (4, .float .f64 (ev_logOf_L1_ctr (ev_logOf_L1_n x)))], []⟩ := by
  have a0 := (ev_logOf_L1_nlt x hv)
  have e : evL Try.prog 48 0 (sub [1, 1, 0, 0, 0] (bodyOf Try.f196)) (ev_logOf_L1_I x (ev_logOf_L1_n x) s1) [.b false] [] [] (.exit 0) ⟨[(0, .float .f32 x), (2, .float .f64 0), (3, .float .f64 s1), (4, .float .f64 (ev_logOf_L1_ctr (ev_logOf_L1_n x)))], []⟩ = some [((fcmp .geq .f64 s1 4609434218613702656) = false), (x = x), (0 = 0), (s1 = s1), ((ev_logOf_L1_ctr (ev_logOf_L1_n x)) = (ev_logOf_L1_ctr (ev_logOf_L1_n x)))] := by kernel_rfl
  exact PW.of_evL mixed _ _ _ e ⟨hw, rfl, rfl, rfl, (by kernel_rfl), trivial⟩

theorem ev_logOf_L1 (x : Nat)  (hv : Iv .f64 (fcv .f32 .f64 x) 4607182418800017408 4643211215818981376)  : PW Try.prog 48 0 (.loop (sub [1, 1, 0, 0, 0] (bodyOf Try.f196))) (ev_logOf_L1_I x 0 (ev_logOf_L1_S x 0)) (.exit 0) ⟨[(0, .float .f32 x), (2, .float .f64 0), (3, .float .f64 (ev_logOf_L1_S x (ev_logOf_L1_n x))), (4, .float .f64 (ev_logOf_L1_ctr (ev_logOf_L1_n x)))], []⟩ :=
  PW.loop (I := (fun k => ev_logOf_L1_I x k (ev_logOf_L1_S x k))) (ev_logOf_L1_n x) (by simp) (fun k hk => ev_logOf_L1_body x hv k _  hk (firstF_before (ev_logOf_L1_ends x hv) k hk)) (ev_logOf_L1_end x hv _  (firstF_false (ev_logOf_L1_ends x hv)))

theorem log_n1 (x : Nat) : ev_logOf_L1_n x = halveN (fcv .f32 .f64 x) := by
  unfold ev_logOf_L1_n halveN; simp only [log_s1]

theorem log_h2 (x : Nat) (hv : Iv .f64 (fcv .f32 .f64 x) 4607182418800017408 4643211215818981376) : fcmp .lss .f64 (ev_logOf_L1_S x (ev_logOf_L1_n x)) 4604930618986332160 = false := by
  rw [log_s1, log_n1]; exact (halve_spec hv).2.1.lss_f (by decide +kernel)

theorem ev_logOf_L2_end (x : Nat)  (hv : Iv .f64 (fcv .f32 .f64 x) 4607182418800017408 4643211215818981376) : PW Try.prog 48 0 (sub [1, 1, 1, 0, 0, 0] (bodyOf Try.f196)) ⟨[(0, .float .f32 x), (2, .float .f64 0), (3, .float .f64 (ev_logOf_L1_S x (ev_logOf_L1_n x))), (4, .float .f64 (ev_logOf_L1_ctr (ev_logOf_L1_n x)))], []⟩ (.exit 2) ⟨[(0, .float .f32 x), (2, .float .f64 0), (3, .float .f64 (ev_logOf_L1_S x (ev_logOf_L1_n x))), (4, .float .f64 (ev_logOf_L1_ctr (ev_logOf_L1_n x)))], []⟩ := by
  have e : evL Try.prog 48 0 (sub [1, 1, 1, 0, 0, 0] (bodyOf Try.f196)) ⟨[(0, .float .f32 x), (2, .float .f64 0), (3, .float .f64 (ev_logOf_L1_S x (ev_logOf_L1_n x))), (4, .float .f64 (ev_logOf_L1_ctr (ev_logOf_L1_n x)))], []⟩ [.b false] [] [] (.exit 2) ⟨[(0, .float .f32 x), (2, .float .f64 0), (3, .float .f64 (ev_logOf_L1_S x (ev_logOf_L1_n x))), (4, .float .f64 (ev_logOf_L1_ctr (ev_logOf_L1_n x)))], []⟩ = some [((fcmp .lss .f64 (ev_logOf_L1_S x (ev_logOf_L1_n x)) 4604930618986332160) = false), (x = x), (0 = 0), ((ev_logOf_L1_S x (ev_logOf_L1_n x)) = (ev_logOf_L1_S x (ev_logOf_L1_n x))), ((ev_logOf_L1_ctr (ev_logOf_L1_n x)) = (ev_logOf_L1_ctr (ev_logOf_L1_n x)))] := by kernel_rfl
  exact PW.of_evL mixed _ _ _ e ⟨(log_h2 x hv), rfl, rfl, rfl, (by kernel_rfl), trivial⟩

theorem ev_logOf_L2 (x : Nat)  (hv : Iv .f64 (fcv .f32 .f64 x) 4607182418800017408 4643211215818981376) : PW Try.prog 48 0 (.loop (sub [1, 1, 1, 0, 0, 0] (bodyOf Try.f196))) ⟨[(0, .float .f32 x), (2, .float .f64 0), (3, .float .f64 (ev_logOf_L1_S x (ev_logOf_L1_n x))), (4, .float .f64 (ev_logOf_L1_ctr (ev_logOf_L1_n x)))], []⟩ (.exit 2) ⟨[(0, .float .f32 x), (2, .float .f64 0), (3, .float .f64 (ev_logOf_L1_S x (ev_logOf_L1_n x))), (4, .float .f64 (ev_logOf_L1_ctr (ev_logOf_L1_n x)))], []⟩ :=
  PW.loop (I := fun _ => ⟨[(0, .float .f32 x), (2, .float .f64 0), (3, .float .f64 (ev_logOf_L1_S x (ev_logOf_L1_n x))), (4, .float .f64 (ev_logOf_L1_ctr (ev_logOf_L1_n x)))], []⟩) 0 (by simp) (fun k hk => absurd hk (Nat.not_lt_zero k)) (ev_logOf_L2_end x hv)

def ev_logOf_L3_ctr : Nat → Nat
  | 0 => 4627730092099895296
  | k + 1 => fop .sub .f64 (ev_logOf_L3_ctr k) 4611686018427387904

theorem ev_logOf_L3_head : ∀ k, k < 13 → (fcmp .geq .f64 (ev_logOf_L3_ctr k) 4607182418800017408) = true := by decide +kernel

theorem ev_logOf_L3_last : (fcmp .geq .f64 (ev_logOf_L3_ctr 13) 4607182418800017408) = false := by decide +kernel

def ev_logOf_L3_step (x : Nat) (k3 : Nat) (s3 : Nat) : Nat := (fop .add .f64 (fop .quo .f64 4607182418800017408 (ev_logOf_L3_ctr k3)) (fop .mul .f64 (fop .mul .f64 (fop .quo .f64 (fop .sub .f64 (ev_logOf_L1_S x (ev_logOf_L1_n x)) 4607182418800017408) (fop .add .f64 (ev_logOf_L1_S x (ev_logOf_L1_n x)) 4607182418800017408)) (fop .quo .f64 (fop .sub .f64 (ev_logOf_L1_S x (ev_logOf_L1_n x)) 4607182418800017408) (fop .add .f64 (ev_logOf_L1_S x (ev_logOf_L1_n x)) 4607182418800017408))) s3))

def ev_logOf_L3_S (x : Nat) : Nat → Nat
  | 0 => 0
  | k + 1 => ev_logOf_L3_step x k (ev_logOf_L3_S x k)

def ev_logOf_L3_I (x : Nat) (k3 : Nat) (s3 : Nat) : St := ⟨[(0, .float .f32 x), (2, .float .f64 0), (3, .float .f64 (ev_logOf_L1_S x (ev_logOf_L1_n x))), (4, .float .f64 (ev_logOf_L1_ctr (ev_logOf_L1_n x))), (5, .float .f64 (fop .quo .f64 (fop .sub .f64 (ev_logOf_L1_S x (ev_logOf_L1_n x)) 4607182418800017408) (fop .add .f64 (ev_logOf_L1_S x (ev_logOf_L1_n x)) 4607182418800017408))), (6, .float .f64 (fop .mul .f64 (fop .quo .f64 (fop .sub .f64 (ev_logOf_L1_S x (ev_logOf_L1_n x)) 4607182418800017408) (fop .add .f64 (ev_logOf_L1_S x (ev_logOf_L1_n x)) 4607182418800017408)) (fop .quo .f64 (fop .sub .f64 (ev_logOf_L1_S x (ev_logOf_L1_n x)) 4607182418800017408) (fop .add .f64 (ev_logOf_L1_S x (ev_logOf_L1_n x)) 4607182418800017408)))), (7, .float .f64 s3), (8, .float .f64 (ev_logOf_L3_ctr k3))], []⟩

theorem ev_logOf_L3_body (x : Nat)  (hv : Iv .f64 (fcv .f32 .f64 x) 4607182418800017408 4643211215818981376) (k3 : Nat) (s3 : Nat)  (hk_k3 : k3 < 13)  : PW Try.prog 48 0 (sub [1, 1, 1, 1, 1, 1, 0, 1, 0, 0] (bodyOf Try.f196)) (ev_logOf_L3_I x k3 s3) .normal (ev_logOf_L3_I x (k3 + 1) (ev_logOf_L3_step x k3 s3)) := by
  have a0 := (ev_logOf_L1_nlt x hv)
  have e : evL Try.prog 48 0 (sub [1, 1, 1, 1, 1, 1, 0, 1, 0, 0] (bodyOf Try.f196)) (ev_logOf_L3_I x k3 s3) [.b true] [] [] .normal (ev_logOf_L3_I x (k3 + 1) (ev_logOf_L3_step x k3 s3)) = some [((fcmp .geq .f64 (ev_logOf_L3_ctr k3) 4607182418800017408) = true), (x = x), (0 = 0), ((ev_logOf_L1_S x (ev_logOf_L1_n x)) = (ev_logOf_L1_S x (ev_logOf_L1_n x))), ((ev_logOf_L1_ctr (ev_logOf_L1_n x)) = (ev_logOf_L1_ctr (ev_logOf_L1_n x))), ((fop .quo .f64 (fop .sub .f64 (ev_logOf_L1_S x (ev_logOf_L1_n x)) 4607182418800017408) (fop .add .f64 (ev_logOf_L1_S x (ev_logOf_L1_n x)) 4607182418800017408)) = (fop .quo .f64 (fop .sub .f64 (ev_logOf_L1_S x (ev_logOf_L1_n x)) 4607182418800017408) (fop .add .f64 (ev_logOf_L1_S x (ev_logOf_L1_n x)) 4607182418800017408))), ((fop .mul .f64 (fop .quo .f64 (fop .sub .f64 (ev_logOf_L1_S x (ev_logOf_L1_n x)) 4607182418800017408) (fop .add .f64 (ev_logOf_L1_S x (ev_logOf_L1_n x)) 4607182418800017408)) (fop .quo .f64 (fop .sub .f64 (ev_logOf_L1_S x (ev_logOf_L1_n x)) 4607182418800017408) (fop .add .f64 (ev_logOf_L1_S x (ev_logOf_L1_n x)) 4607182418800017408))) = (fop .mul .f64 (fop .quo .f64 (fop .sub .f64 (ev_logOf_L1_S x (ev_logOf_L1_n x)) 4607182418800017408) (fop .add .f64 (ev_logOf_L1_S x (ev_logOf_L1_n x)) 4607182418800017408)) (fop .quo .f64 (fop .sub .f64 (ev_logOf_L1_S x (ev_logOf_L1_n x)) 4607182418800017408) (fop .add .f64 (ev_logOf_L1_S x (ev_logOf_L1_n x)) 4607182418800017408)))), ((fop .add .f64 (fop .quo .f64 4607182418800017408 (ev_logOf_L3_ctr k3)) (fop .mul .f64 (fop .mul .f64 (fop .quo .f64 (fop .sub .f64 (ev_logOf_L1_S x (ev_logOf_L1_n x)) 4607182418800017408) (fop .add .f64 (ev_logOf_L1_S x (ev_logOf_L1_n x)) 4607182418800017408)) (fop .quo .f64 (fop .sub .f64 (ev_logOf_L1_S x (ev_logOf_L1_n x)) 4607182418800017408) (fop .add .f64 (ev_logOf_L1_S x (ev_logOf_L1_n x)) 4607182418800017408))) s3)) = (ev_logOf_L3_step x k3 s3)), ((fop .sub .f64 (ev_logOf_L3_ctr k3) 4611686018427387904) = (ev_logOf_L3_ctr (k3 + 1)))] := by kernel_rfl
  exact PW.of_evL mixed _ _ _ e ⟨(ev_logOf_L3_head k3 hk_k3), rfl, rfl, rfl, (by kernel_rfl), rfl, rfl, (by first | (simp [-List.getD_eq_getElem?_getD, ev_logOf_L3_step]; done) | (simp_all [-List.getD_eq_getElem?_getD, ev_logOf_L3_step]; done)), rfl, trivial⟩

theorem ev_logOf_L3_end (x : Nat)  (hv : Iv .f64 (fcv .f32 .f64 x) 4607182418800017408 4643211215818981376) (s3 : Nat)  : PW Try.prog 48 0 (sub [1, 1, 1, 1, 1, 1, 0, 1, 0, 0] (bodyOf Try.f196)) (ev_logOf_L3_I x 13 s3) (.exit 4) ⟨[(0, .float .f32 x), (2, .float .f64 0), (3, .float .f64 (ev_logOf_L1_S x (ev_logOf_L1_n x))), (4, .float .f64 (ev_logOf_L1_ctr (ev_logOf_L1_n x))), (5, .float .f64 (fop .quo .f64 (fop .sub .f64 (ev_logOf_L1_S x (ev_logOf_L1_n x)) 4607182418800017408) (fop .add .f64 (ev_logOf_L1_S x (ev_logOf_L1_n x)) 4607182418800017408))), (6, .float .f64 (fop .mul .f64 (fop .quo .f64 (fop .sub .f64 (ev_logOf_L1_S x (ev_logOf_L1_n x)) 4607182418800017408) (fop .add .f64 (ev_logOf_L1_S x (ev_logOf_L1_n x)) 4607182418800017408)) (fop .quo .f64 (fop .sub .f64 (ev_logOf_L1_S x (ev_logOf_L1_n x)) 4607182418800017408) (fop .add .f64 (ev_logOf_L1_S x (ev_logOf_L1_n x)) 4607182418800017408)))), (7, .float .f64 s3), (8, .float .f64 (ev_logOf_L3_ctr 13))], []⟩ := by
  have a0 := (ev_logOf_L1_nlt x hv)
  have e : evL Try.prog 48 0 (sub [1, 1, 1, 1, 1, 1, 0, 1, 0, 0] (bodyOf Try.f196)) (ev_logOf_L3_I x 13 s3) [.b false] [] [] (.exit 4) ⟨[(0, .float .f32 x), (2, .float .f64 0), (3, .float .f64 (ev_logOf_L1_S x (ev_logOf_L1_n x))), (4, .float .f64 (ev_logOf_L1_ctr (ev_logOf_L1_n x))), (5, .float .f64 (fop .quo .f64 (fop .sub .f64 (ev_logOf_L1_S x (ev_logOf_L1_n x)) 4607182418800017408) (fop .add .f64 (ev_logOf_L1_S x (ev_logOf_L1_n x)) 4607182418800017408))), (6, .float .f64 (fop .mul .f64 (fop .quo .f64 (fop .sub .f64 (ev_logOf_L1_S x (ev_logOf_L1_n x)) 4607182418800017408) (fop .add .f64 (ev_logOf_L1_S x (ev_logOf_L1_n x)) 4607182418800017408)) (fop .quo .f64 (fop .sub .f64 (ev_logOf_L1_S x (ev_logOf_L1_n x)) 4607182418800017408) (fop .add .f64 (ev_logOf_L1_S x (ev_logOf_L1_n x)) 4607182418800017408)))), (7, .float .f64 s3), (8, .float .f64 (ev_logOf_L3_ctr 13))], []⟩ = some [((fcmp .geq .f64 (ev_logOf_L3_ctr 13) 4607182418800017408) = false), (x = x), (0 = 0), ((ev_logOf_L1_S x (ev_logOf_L1_n x)) = (ev_logOf_L1_S x (ev_logOf_L1_n x))), ((ev_logOf_L1_ctr (ev_logOf_L1_n x)) = (ev_logOf_L1_ctr (ev_logOf_L1_n x))), ((fop .quo .f64 (fop .sub .f64 (ev_logOf_L1_S x (ev_logOf_L1_n x)) 4607182418800017408) (fop .add .f64 (ev_logOf_L1_S x (ev_logOf_L1_n x)) 4607182418800017408)) = (fop .quo .f64 (fop .sub .f64 (ev_logOf_L1_S x (ev_logOf_L1_n x)) 4607182418800017408) (fop .add .f64 (ev_logOf_L1_S x (ev_logOf_L1_n x)) 4607182418800017408))), ((fop .mul .f64 (fop .quo .f64 (fop .sub .f64 (ev_logOf_L1_S x (ev_logOf_L1_n x)) 4607182418800017408) (fop .add .f64 (ev_logOf_L1_S x (ev_logOf_L1_n x)) 4607182418800017408)) (fop .quo .f64 (fop .sub .f64 (ev_logOf_L1_S x (ev_logOf_L1_n x)) 4607182418800017408) (fop .add .f64 (ev_logOf_L1_S x (ev_logOf_L1_n x)) 4607182418800017408))) = (fop .mul .f64 (fop .quo .f64 (fop .sub .f64 (ev_logOf_L1_S x (ev_logOf_L1_n x)) 4607182418800017408) (fop .add .f64 (ev_logOf_L1_S x (ev_logOf_L1_n x)) 4607182418800017408)) (fop .quo .f64 (fop .sub .f64 (ev_logOf_L1_S x (ev_logOf_L1_n x)) 4607182418800017408) (fop .add .f64 (ev_logOf_L1_S x (ev_logOf_L1_n x)) 4607182418800017408)))), (s3 = s3), ((ev_logOf_L3_ctr 13) = (ev_logOf_L3_ctr 13))] := by kernel_rfl
  exact PW.of_evL mixed _ _ _ e ⟨ev_logOf_L3_last, rfl, rfl, rfl, (by kernel_rfl), rfl, rfl, rfl, (by kernel_rfl), trivial⟩

theorem ev_logOf_L3 (x : Nat)  (hv : Iv .f64 (fcv .f32 .f64 x) 4607182418800017408 4643211215818981376)  : PW Try.prog 48 0 (.loop (sub [1, 1, 1, 1, 1, 1, 0, 1, 0, 0] (bodyOf Try.f196))) (ev_logOf_L3_I x 0 (ev_logOf_L3_S x 0)) (.exit 4) ⟨[(0, .float .f32 x), (2, .float .f64 0), (3, .float .f64 (ev_logOf_L1_S x (ev_logOf_L1_n x))), (4, .float .f64 (ev_logOf_L1_ctr (ev_logOf_L1_n x))), (5, .float .f64 (fop .quo .f64 (fop .sub .f64 (ev_logOf_L1_S x (ev_logOf_L1_n x)) 4607182418800017408) (fop .add .f64 (ev_logOf_L1_S x (ev_logOf_L1_n x)) 4607182418800017408))), (6, .float .f64 (fop .mul .f64 (fop .quo .f64 (fop .sub .f64 (ev_logOf_L1_S x (ev_logOf_L1_n x)) 4607182418800017408) (fop .add .f64 (ev_logOf_L1_S x (ev_logOf_L1_n x)) 4607182418800017408)) (fop .quo .f64 (fop .sub .f64 (ev_logOf_L1_S x (ev_logOf_L1_n x)) 4607182418800017408) (fop .add .f64 (ev_logOf_L1_S x (ev_logOf_L1_n x)) 4607182418800017408)))), (7, .float .f64 (ev_logOf_L3_S x 13)), (8, .float .f64 (ev_logOf_L3_ctr 13))], []⟩ :=
  PW.loop (I := (fun k => ev_logOf_L3_I x k (ev_logOf_L3_S x k))) 13 (by simp) (fun k hk => ev_logOf_L3_body x hv k _  hk) (ev_logOf_L3_end x hv _ )

theorem log_c1 : ∀ k, k < 9 → ev_logOf_L1_ctr k = canon .f64 (FloatKind.nearest .f64 ((k : Nat) : Int)) := by decide +kernel

theorem log_c3 : ∀ k, k < 13 → ev_logOf_L3_ctr k = canon .f64 (FloatKind.nearest .f64 ((25 : Int) + (-2 : Int) * ((k : Nat) : Int))) := by decide +kernel

theorem log_s3 (x : Nat) : ∀ k, k ≤ 13 → ev_logOf_L3_S x k = logQ (fop .mul .f64 (logS (halve (fcv .f32 .f64 x) (halveN (fcv .f32 .f64 x)))) (logS (halve (fcv .f32 .f64 x) (halveN (fcv .f32 .f64 x))))) k := by
  intro k
  induction k with
  | zero => intro _; rfl
  | succ k ih =>
    intro hk
    simp only [ev_logOf_L3_S, ev_logOf_L3_step, logQ, ih (by omega), log_c3 k (by omega), log_s1, log_n1]; rfl

theorem log_impl (x : Nat) (hv : Iv .f64 (fcv .f32 .f64 x) 4607182418800017408 4643211215818981376) : (fop .add .f64 (fop .mul .f64 4611686018427387904 (fop .mul .f64 (fop .quo .f64 (fop .sub .f64 (ev_logOf_L1_S x (ev_logOf_L1_n x)) 4607182418800017408) (fop .add .f64 (ev_logOf_L1_S x (ev_logOf_L1_n x)) 4607182418800017408)) (ev_logOf_L3_S x 13))) (fop .mul .f64 (ev_logOf_L1_ctr (ev_logOf_L1_n x)) 4604418534313441775)) = (logW (fcv .f32 .f64 x)) := by
  rw [log_c1 _ (ev_logOf_L1_nlt x hv), log_s3 x 13 (by omega), log_s1, log_n1]
  unfold logW logV; rfl

theorem ev_logOf (x : Nat)  (hv : Iv .f64 (fcv .f32 .f64 x) 4607182418800017408 4643211215818981376) : Ev Try.prog 196 [.float .f32 x] [] (.float .f64 (logW (fcv .f32 .f64 x))) [] := by
  have a0 := (ev_logOf_L1_nlt x hv)
  have e : evF Try.prog Try.f196 [.float .f32 x] [] [] [([], (ev_logOf_L1_I x 0 (ev_logOf_L1_S x 0)), (.exit 0), ⟨[(0, .float .f32 x), (2, .float .f64 0), (3, .float .f64 (ev_logOf_L1_S x (ev_logOf_L1_n x))), (4, .float .f64 (ev_logOf_L1_ctr (ev_logOf_L1_n x)))], []⟩), ([], ⟨[(0, .float .f32 x), (2, .float .f64 0), (3, .float .f64 (ev_logOf_L1_S x (ev_logOf_L1_n x))), (4, .float .f64 (ev_logOf_L1_ctr (ev_logOf_L1_n x)))], []⟩, (.exit 2), ⟨[(0, .float .f32 x), (2, .float .f64 0), (3, .float .f64 (ev_logOf_L1_S x (ev_logOf_L1_n x))), (4, .float .f64 (ev_logOf_L1_ctr (ev_logOf_L1_n x)))], []⟩), ([], (ev_logOf_L3_I x 0 (ev_logOf_L3_S x 0)), (.exit 4), ⟨[(0, .float .f32 x), (2, .float .f64 0), (3, .float .f64 (ev_logOf_L1_S x (ev_logOf_L1_n x))), (4, .float .f64 (ev_logOf_L1_ctr (ev_logOf_L1_n x))), (5, .float .f64 (fop .quo .f64 (fop .sub .f64 (ev_logOf_L1_S x (ev_logOf_L1_n x)) 4607182418800017408) (fop .add .f64 (ev_logOf_L1_S x (ev_logOf_L1_n x)) 4607182418800017408))), (6, .float .f64 (fop .mul .f64 (fop .quo .f64 (fop .sub .f64 (ev_logOf_L1_S x (ev_logOf_L1_n x)) 4607182418800017408) (fop .add .f64 (ev_logOf_L1_S x (ev_logOf_L1_n x)) 4607182418800017408)) (fop .quo .f64 (fop .sub .f64 (ev_logOf_L1_S x (ev_logOf_L1_n x)) 4607182418800017408) (fop .add .f64 (ev_logOf_L1_S x (ev_logOf_L1_n x)) 4607182418800017408)))), (7, .float .f64 (ev_logOf_L3_S x 13)), (8, .float .f64 (ev_logOf_L3_ctr 13))], []⟩)] [] (.float .f64 (logW (fcv .f32 .f64 x))) [] = some [(x = x), (0 = 0), ((fcv .f32 .f64 x) = (ev_logOf_L1_S x 0)), (0 = (ev_logOf_L1_ctr 0)), (PW Try.prog 48 0 (.loop (sub [1, 1, 0, 0, 0] (bodyOf Try.f196))) (ev_logOf_L1_I x 0 (ev_logOf_L1_S x 0)) (.exit 0) ⟨[(0, .float .f32 x), (2, .float .f64 0), (3, .float .f64 (ev_logOf_L1_S x (ev_logOf_L1_n x))), (4, .float .f64 (ev_logOf_L1_ctr (ev_logOf_L1_n x)))], []⟩), (x = x), (0 = 0), ((ev_logOf_L1_S x (ev_logOf_L1_n x)) = (ev_logOf_L1_S x (ev_logOf_L1_n x))), ((ev_logOf_L1_ctr (ev_logOf_L1_n x)) = (ev_logOf_L1_ctr (ev_logOf_L1_n x))), (PW Try.prog 48 0 (.loop (sub [1, 1, 1, 0, 0, 0] (bodyOf Try.f196))) ⟨[(0, .float .f32 x), (2, .float .f64 0), (3, .float .f64 (ev_logOf_L1_S x (ev_logOf_L1_n x))), (4, .float .f64 (ev_logOf_L1_ctr (ev_logOf_L1_n x)))], []⟩ (.exit 2) ⟨[(0, .float .f32 x), (2, .float .f64 0), (3, .float .f64 (ev_logOf_L1_S x (ev_logOf_L1_n x))), (4, .float .f64 (ev_logOf_L1_ctr (ev_logOf_L1_n x)))], []⟩), (x = x), (0 = 0), ((ev_logOf_L1_S x (ev_logOf_L1_n x)) = (ev_logOf_L1_S x (ev_logOf_L1_n x))), ((ev_logOf_L1_ctr (ev_logOf_L1_n x)) = (ev_logOf_L1_ctr (ev_logOf_L1_n x))), ((fop .quo .f64 (fop .sub .f64 (ev_logOf_L1_S x (ev_logOf_L1_n x)) 4607182418800017408) (fop .add .f64 (ev_logOf_L1_S x (ev_logOf_L1_n x)) 4607182418800017408)) = (fop .quo .f64 (fop .sub .f64 (ev_logOf_L1_S x (ev_logOf_L1_n x)) 4607182418800017408) (fop .add .f64 (ev_logOf_L1_S x (ev_logOf_L1_n x)) 4607182418800017408))), ((fop .mul .f64 (fop .quo .f64 (fop .sub .f64 (ev_logOf_L1_S x (ev_logOf_L1_n x)) 4607182418800017408) (fop .add .f64 (ev_logOf_L1_S x (ev_logOf_L1_n x)) 4607182418800017408)) (fop .quo .f64 (fop .sub .f64 (ev_logOf_L1_S x (ev_logOf_L1_n x)) 4607182418800017408) (fop .add .f64 (ev_logOf_L1_S x (ev_logOf_L1_n x)) 4607182418800017408))) = (fop .mul .f64 (fop .quo .f64 (fop .sub .f64 (ev_logOf_L1_S x (ev_logOf_L1_n x)) 4607182418800017408) (fop .add .f64 (ev_logOf_L1_S x (ev_logOf_L1_n x)) 4607182418800017408)) (fop .quo .f64 (fop .sub .f64 (ev_logOf_L1_S x (ev_logOf_L1_n x)) 4607182418800017408) (fop .add .f64 (ev_logOf_L1_S x (ev_logOf_L1_n x)) 4607182418800017408)))), (0 = (ev_logOf_L3_S x 0)), (4627730092099895296 = (ev_logOf_L3_ctr 0)), (PW Try.prog 48 0 (.loop (sub [1, 1, 1, 1, 1, 1, 0, 1, 0, 0] (bodyOf Try.f196))) (ev_logOf_L3_I x 0 (ev_logOf_L3_S x 0)) (.exit 4) ⟨[(0, .float .f32 x), (2, .float .f64 0), (3, .float .f64 (ev_logOf_L1_S x (ev_logOf_L1_n x))), (4, .float .f64 (ev_logOf_L1_ctr (ev_logOf_L1_n x))), (5, .float .f64 (fop .quo .f64 (fop .sub .f64 (ev_logOf_L1_S x (ev_logOf_L1_n x)) 4607182418800017408) (fop .add .f64 (ev_logOf_L1_S x (ev_logOf_L1_n x)) 4607182418800017408))), (6, .float .f64 (fop .mul .f64 (fop .quo .f64 (fop .sub .f64 (ev_logOf_L1_S x (ev_logOf_L1_n x)) 4607182418800017408) (fop .add .f64 (ev_logOf_L1_S x (ev_logOf_L1_n x)) 4607182418800017408)) (fop .quo .f64 (fop .sub .f64 (ev_logOf_L1_S x (ev_logOf_L1_n x)) 4607182418800017408) (fop .add .f64 (ev_logOf_L1_S x (ev_logOf_L1_n x)) 4607182418800017408)))), (7, .float .f64 (ev_logOf_L3_S x 13)), (8, .float .f64 (ev_logOf_L3_ctr 13))], []⟩), ((fop .add .f64 (fop .mul .f64 4611686018427387904 (fop .mul .f64 (fop .quo .f64 (fop .sub .f64 (ev_logOf_L1_S x (ev_logOf_L1_n x)) 4607182418800017408) (fop .add .f64 (ev_logOf_L1_S x (ev_logOf_L1_n x)) 4607182418800017408)) (ev_logOf_L3_S x 13))) (fop .mul .f64 (ev_logOf_L1_ctr (ev_logOf_L1_n x)) 4604418534313441775)) = (logW (fcv .f32 .f64 x)))] := by kernel_rfl
  exact Ev.of mixed _ _ _ Try.func196 (by kernel_rfl) e ⟨rfl, rfl, rfl, (by kernel_rfl), (ev_logOf_L1 x hv), rfl, rfl, rfl, (by kernel_rfl), (ev_logOf_L2 x hv), rfl, rfl, rfl, (by kernel_rfl), rfl, rfl, rfl, (by kernel_rfl), (ev_logOf_L3 x hv), (log_impl x hv), trivial⟩

theorem ev_IsInf (f : Nat) (s : Int)  (hs : 1 ≤ s) : Ev Try.prog 188 [.float .f64 f, .int .i64 s] [] (.bool (fcmp .gtr .f64 f 9218868437227405311)) [] := by
  have e : evF Try.prog Try.f188 [.float .f64 f, .int .i64 s] [] [.b false, .b false] [] [] (.bool (fcmp .gtr .f64 f 9218868437227405311)) [] = some [((s == (0 : Int)) = false), ((decide (s < (0 : Int))) = false), ((fcmp .gtr .f64 f 9218868437227405311) = (fcmp .gtr .f64 f 9218868437227405311))] := by kernel_rfl
  exact Ev.of mixed _ _ _ Try.func188 (by kernel_rfl) e ⟨(beq_eq_false_iff_ne.2 (by omega)), (decide_eq_false (by omega)), rfl, trivial⟩

theorem ev_LogNumber (x : Nat)  (hv : Iv .f32 x 1065353216 1132462080) : Ev Try.prog 164 [.float .f32 x] [] (.float .f32 (fcv .f64 .f32 (logW (fcv .f32 .f64 x)))) [] := by
  have e : evF Try.prog Try.f164 [.float .f32 x] [] [.b false, .b false, .b false, .b false, .b false, .c [] (.bool (fin32 x)) [], .b false, .c [] (.float .f64 (logW (fcv .f32 .f64 x))) []] [] [] (.float .f32 (fcv .f64 .f32 (logW (fcv .f32 .f64 x)))) [] = some [((fcmp .neq .f32 x x) = false), ((fcmp .neq .f32 x x) = false), ((fcmp .neq .f32 x x) = false), ((fcmp .lss .f32 x 0) = false), ((fcmp .eql .f32 x 0) = false), (Ev Try.prog 86 [.float .f32 x] [] (.bool (fin32 x)) []), ((!(fin32 x)) = false), (Ev Try.prog 196 [.float .f32 x] [] (.float .f64 (logW (fcv .f32 .f64 x))) []), (fconvOk .f64 .f32 (logW (fcv .f32 .f64 x))), ((fcv .f64 .f32 (logW (fcv .f32 .f64 x))) = (fcv .f64 .f32 (logW (fcv .f32 .f64 x))))] := by kernel_rfl
  exact Ev.of mixed _ _ _ Try.func164 (by kernel_rfl) e ⟨hv.self_ne, hv.self_ne, hv.self_ne, (hv.lss_f (by decide +kernel)), (hv.eql_f (by decide +kernel)), (ev_IsFinite x), (congrArg Bool.not hv.fin), (ev_logOf x (up256 hv)), ((log_iv (up256 hv)).down 0 1085370904 (by decide +kernel)).2, rfl, trivial⟩

end Go.Sim
