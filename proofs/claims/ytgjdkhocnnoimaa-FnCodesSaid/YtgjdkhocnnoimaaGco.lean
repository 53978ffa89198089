/- What the functions that FromCode reaches compute. Conditions: none. -/

import Derived.Test.YtgjdkhocnnoimaaProg
import Derived.KernelRfl
import Derived.Test.YtgjdkhocnnoimaaGb
import Derived.Test.YtgjdkhocnnoimaaPu9

set_option linter.unusedSimpArgs false

set_option linter.unusedVariables false

namespace Go.Sim

open Go Go.Proofs

theorem ev_l01Narrow (x : Nat)  (hx : fconvOk .f64 .f32 x) : Ev Try.prog 192 [.float .f64 x] [] (.float .f32 (fcv .f64 .f32 x)) [] := by
  have e : evF Try.prog Try.f192 [.float .f64 x] [] [] [] [] (.float .f32 (fcv .f64 .f32 x)) [] = some [(fconvOk .f64 .f32 x), ((fcv .f64 .f32 x) = (fcv .f64 .f32 x))] := by kernel_rfl
  exact Ev.of mixed _ _ _ Try.func192 (by kernel_rfl) e ⟨(by assumption), rfl, trivial⟩

def ev_ExpNumber_L1_ctr : Nat → Nat
  | 0 => 4622945017495814144
  | k + 1 => fop .sub .f64 (ev_ExpNumber_L1_ctr k) 4607182418800017408

theorem ev_ExpNumber_L1_head : ∀ k, k < 12 → (fcmp .geq .f64 (ev_ExpNumber_L1_ctr k) 4607182418800017408) = true := by decide +kernel

theorem ev_ExpNumber_L1_last : (fcmp .geq .f64 (ev_ExpNumber_L1_ctr 12) 4607182418800017408) = false := by decide +kernel

def ev_ExpNumber_L1_step (x : Nat) (k1 : Nat) (s1 : Nat) : Nat := (fop .add .f64 4607182418800017408 (fop .quo .f64 (fop .mul .f64 (fop .quo .f64 (fcv .f32 .f64 x) 4643211215818981376) s1) (ev_ExpNumber_L1_ctr k1)))

def ev_ExpNumber_L1_S (x : Nat) : Nat → Nat
  | 0 => 4607182418800017408
  | k + 1 => ev_ExpNumber_L1_step x k (ev_ExpNumber_L1_S x k)

def ev_ExpNumber_L1_I (x : Nat) (k1 : Nat) (s1 : Nat) : St := ⟨[(0, .float .f32 x), (2, .float .f32 0), (3, .float .f64 (fop .quo .f64 (fcv .f32 .f64 x) 4643211215818981376)), (4, .float .f64 s1), (5, .float .f64 (ev_ExpNumber_L1_ctr k1)), (6, .bool (fcmp .gtr .f32 x 1128792064)), (11, .bool (fcmp .lss .f32 x 3276275712))], []⟩

theorem ev_ExpNumber_L1_body (x : Nat)  (hx : expOkB x = true) (k1 : Nat) (s1 : Nat)  (hk_k1 : k1 < 12)  : PW Try.prog 35 0 (sub [1, 1, 1, 0, 1, 0, 0] (bodyOf Try.f163)) (ev_ExpNumber_L1_I x k1 s1) .normal (ev_ExpNumber_L1_I x (k1 + 1) (ev_ExpNumber_L1_step x k1 s1)) := by
  have e : evL Try.prog 35 0 (sub [1, 1, 1, 0, 1, 0, 0] (bodyOf Try.f163)) (ev_ExpNumber_L1_I x k1 s1) [.b true] [] [] .normal (ev_ExpNumber_L1_I x (k1 + 1) (ev_ExpNumber_L1_step x k1 s1)) = some [((fcmp .geq .f64 (ev_ExpNumber_L1_ctr k1) 4607182418800017408) = true), (x = x), (0 = 0), ((fop .quo .f64 (fcv .f32 .f64 x) 4643211215818981376) = (fop .quo .f64 (fcv .f32 .f64 x) 4643211215818981376)), ((fop .add .f64 4607182418800017408 (fop .quo .f64 (fop .mul .f64 (fop .quo .f64 (fcv .f32 .f64 x) 4643211215818981376) s1) (ev_ExpNumber_L1_ctr k1))) = (ev_ExpNumber_L1_step x k1 s1)), ((fop .sub .f64 (ev_ExpNumber_L1_ctr k1) 4607182418800017408) = (ev_ExpNumber_L1_ctr (k1 + 1))), ((fcmp .gtr .f32 x 1128792064) = (fcmp .gtr .f32 x 1128792064)), ((fcmp .lss .f32 x 3276275712) = (fcmp .lss .f32 x 3276275712))] := by kernel_rfl
  exact PW.of_evL mixed _ _ _ e ⟨(ev_ExpNumber_L1_head k1 hk_k1), rfl, rfl, rfl, (by first | (simp [-List.getD_eq_getElem?_getD, ev_ExpNumber_L1_step]; done) | (simp_all [-List.getD_eq_getElem?_getD, ev_ExpNumber_L1_step]; done)), rfl, rfl, rfl, trivial⟩

theorem ev_ExpNumber_L1_end (x : Nat)  (hx : expOkB x = true) (s1 : Nat)  : PW Try.prog 35 0 (sub [1, 1, 1, 0, 1, 0, 0] (bodyOf Try.f163)) (ev_ExpNumber_L1_I x 12 s1) (.exit 1) ⟨[(0, .float .f32 x), (2, .float .f32 0), (3, .float .f64 (fop .quo .f64 (fcv .f32 .f64 x) 4643211215818981376)), (4, .float .f64 s1), (5, .float .f64 (ev_ExpNumber_L1_ctr 12)), (6, .bool (fcmp .gtr .f32 x 1128792064)), (11, .bool (fcmp .lss .f32 x 3276275712))], []⟩ := by
  have e : evL Try.prog 35 0 (sub [1, 1, 1, 0, 1, 0, 0] (bodyOf Try.f163)) (ev_ExpNumber_L1_I x 12 s1) [.b false] [] [] (.exit 1) ⟨[(0, .float .f32 x), (2, .float .f32 0), (3, .float .f64 (fop .quo .f64 (fcv .f32 .f64 x) 4643211215818981376)), (4, .float .f64 s1), (5, .float .f64 (ev_ExpNumber_L1_ctr 12)), (6, .bool (fcmp .gtr .f32 x 1128792064)), (11, .bool (fcmp .lss .f32 x 3276275712))], []⟩ = some [((fcmp .geq .f64 (ev_ExpNumber_L1_ctr 12) 4607182418800017408) = false), (x = x), (0 = 0), ((fop .quo .f64 (fcv .f32 .f64 x) 4643211215818981376) = (fop .quo .f64 (fcv .f32 .f64 x) 4643211215818981376)), (s1 = s1), ((ev_ExpNumber_L1_ctr 12) = (ev_ExpNumber_L1_ctr 12)), ((fcmp .gtr .f32 x 1128792064) = (fcmp .gtr .f32 x 1128792064)), ((fcmp .lss .f32 x 3276275712) = (fcmp .lss .f32 x 3276275712))] := by kernel_rfl
  exact PW.of_evL mixed _ _ _ e ⟨ev_ExpNumber_L1_last, rfl, rfl, rfl, rfl, (by kernel_rfl), rfl, rfl, trivial⟩

theorem ev_ExpNumber_L1 (x : Nat)  (hx : expOkB x = true)  : PW Try.prog 35 0 (.loop (sub [1, 1, 1, 0, 1, 0, 0] (bodyOf Try.f163))) (ev_ExpNumber_L1_I x 0 (ev_ExpNumber_L1_S x 0)) (.exit 1) ⟨[(0, .float .f32 x), (2, .float .f32 0), (3, .float .f64 (fop .quo .f64 (fcv .f32 .f64 x) 4643211215818981376)), (4, .float .f64 (ev_ExpNumber_L1_S x 12)), (5, .float .f64 (ev_ExpNumber_L1_ctr 12)), (6, .bool (fcmp .gtr .f32 x 1128792064)), (11, .bool (fcmp .lss .f32 x 3276275712))], []⟩ :=
  PW.loop (I := (fun k => ev_ExpNumber_L1_I x k (ev_ExpNumber_L1_S x k))) 12 (by simp) (fun k hk => ev_ExpNumber_L1_body x hx k _  hk) (ev_ExpNumber_L1_end x hx _ )

def ev_ExpNumber_L2_step (x : Nat) (k2 : Nat) (s2 : Nat) : Nat := (fop .mul .f64 s2 s2)

def ev_ExpNumber_L2_S (x : Nat) : Nat → Nat
  | 0 => (ev_ExpNumber_L1_S x 12)
  | k + 1 => ev_ExpNumber_L2_step x k (ev_ExpNumber_L2_S x k)

def ev_ExpNumber_L2_I (x : Nat) (k2 : Nat) (s2 : Nat) : St := ⟨[(0, .float .f32 x), (2, .float .f32 0), (3, .float .f64 (fop .quo .f64 (fcv .f32 .f64 x) 4643211215818981376)), (4, .float .f64 s2), (5, .float .f64 (ev_ExpNumber_L1_ctr 12)), (6, .bool (fcmp .gtr .f32 x 1128792064)), (11, .bool (fcmp .lss .f32 x 3276275712)), (27, .int .i64 ((k2 : Nat) : Int))], []⟩

theorem ev_ExpNumber_L2_body (x : Nat)  (hx : expOkB x = true) (k2 : Nat) (s2 : Nat)  (hk_k2 : k2 < 8)  : PW Try.prog 35 0 (sub [1, 1, 1, 1, 0, 1, 0, 0] (bodyOf Try.f163)) (ev_ExpNumber_L2_I x k2 s2) .normal (ev_ExpNumber_L2_I x (k2 + 1) (ev_ExpNumber_L2_step x k2 s2)) := by
  have e : evL Try.prog 35 0 (sub [1, 1, 1, 1, 0, 1, 0, 0] (bodyOf Try.f163)) (ev_ExpNumber_L2_I x k2 s2) [.b true] [] [] .normal (ev_ExpNumber_L2_I x (k2 + 1) (ev_ExpNumber_L2_step x k2 s2)) = some [((decide (((k2 : Nat) : Int) < (8 : Int))) = true), (inR .i64 (((k2 : Nat) : Int) + (1 : Int))), (x = x), (0 = 0), ((fop .quo .f64 (fcv .f32 .f64 x) 4643211215818981376) = (fop .quo .f64 (fcv .f32 .f64 x) 4643211215818981376)), ((fop .mul .f64 s2 s2) = (ev_ExpNumber_L2_step x k2 s2)), ((ev_ExpNumber_L1_ctr 12) = (ev_ExpNumber_L1_ctr 12)), ((fcmp .gtr .f32 x 1128792064) = (fcmp .gtr .f32 x 1128792064)), ((fcmp .lss .f32 x 3276275712) = (fcmp .lss .f32 x 3276275712)), ((((k2 : Nat) : Int) + (1 : Int)) = (((k2 + 1) : Nat) : Int))] := by kernel_rfl
  exact PW.of_evL mixed _ _ _ e ⟨(decide_eq_true (by omega)), (inR64 (by omega) (by omega)), rfl, rfl, rfl, (by first | (simp [-List.getD_eq_getElem?_getD, ev_ExpNumber_L2_step]; done) | (simp_all [-List.getD_eq_getElem?_getD, ev_ExpNumber_L2_step]; done)), (by kernel_rfl), rfl, rfl, (by omega), trivial⟩

theorem ev_ExpNumber_L2_end (x : Nat)  (hx : expOkB x = true) (s2 : Nat)  : PW Try.prog 35 0 (sub [1, 1, 1, 1, 0, 1, 0, 0] (bodyOf Try.f163)) (ev_ExpNumber_L2_I x 8 s2) (.exit 3) ⟨[(0, .float .f32 x), (2, .float .f32 0), (3, .float .f64 (fop .quo .f64 (fcv .f32 .f64 x) 4643211215818981376)), (4, .float .f64 s2), (5, .float .f64 (ev_ExpNumber_L1_ctr 12)), (6, .bool (fcmp .gtr .f32 x 1128792064)), (11, .bool (fcmp .lss .f32 x 3276275712)), (27, .int .i64 ((8 : Nat) : Int))], []⟩ := by
  have e : evL Try.prog 35 0 (sub [1, 1, 1, 1, 0, 1, 0, 0] (bodyOf Try.f163)) (ev_ExpNumber_L2_I x 8 s2) [.b false] [] [] (.exit 3) ⟨[(0, .float .f32 x), (2, .float .f32 0), (3, .float .f64 (fop .quo .f64 (fcv .f32 .f64 x) 4643211215818981376)), (4, .float .f64 s2), (5, .float .f64 (ev_ExpNumber_L1_ctr 12)), (6, .bool (fcmp .gtr .f32 x 1128792064)), (11, .bool (fcmp .lss .f32 x 3276275712)), (27, .int .i64 ((8 : Nat) : Int))], []⟩ = some [((decide (((8 : Nat) : Int) < (8 : Int))) = false), (x = x), (0 = 0), ((fop .quo .f64 (fcv .f32 .f64 x) 4643211215818981376) = (fop .quo .f64 (fcv .f32 .f64 x) 4643211215818981376)), (s2 = s2), ((ev_ExpNumber_L1_ctr 12) = (ev_ExpNumber_L1_ctr 12)), ((fcmp .gtr .f32 x 1128792064) = (fcmp .gtr .f32 x 1128792064)), ((fcmp .lss .f32 x 3276275712) = (fcmp .lss .f32 x 3276275712)), (((8 : Nat) : Int) = ((8 : Nat) : Int))] := by kernel_rfl
  exact PW.of_evL mixed _ _ _ e ⟨(decide_eq_false (by omega)), rfl, rfl, rfl, rfl, (by kernel_rfl), rfl, rfl, rfl, trivial⟩

theorem ev_ExpNumber_L2 (x : Nat)  (hx : expOkB x = true)  : PW Try.prog 35 0 (.loop (sub [1, 1, 1, 1, 0, 1, 0, 0] (bodyOf Try.f163))) (ev_ExpNumber_L2_I x 0 (ev_ExpNumber_L2_S x 0)) (.exit 3) ⟨[(0, .float .f32 x), (2, .float .f32 0), (3, .float .f64 (fop .quo .f64 (fcv .f32 .f64 x) 4643211215818981376)), (4, .float .f64 (ev_ExpNumber_L2_S x 8)), (5, .float .f64 (ev_ExpNumber_L1_ctr 12)), (6, .bool (fcmp .gtr .f32 x 1128792064)), (11, .bool (fcmp .lss .f32 x 3276275712)), (27, .int .i64 ((8 : Nat) : Int))], []⟩ :=
  PW.loop (I := (fun k => ev_ExpNumber_L2_I x k (ev_ExpNumber_L2_S x k))) 8 (by simp) (fun k hk => ev_ExpNumber_L2_body x hx k _  hk) (ev_ExpNumber_L2_end x hx _ )

theorem exp_implP (x : Nat) : ∀ k, k ≤ 12 → ev_ExpNumber_L1_S x k = expP (fop .quo .f64 (fcv .f32 .f64 x) 4643211215818981376) k := by
  intro k
  induction k with
  | zero => intro _; rfl
  | succ k ih =>
    intro hk
    have e : ∀ k, k < 12 → ev_ExpNumber_L1_ctr k = canon .f64 (FloatKind.nearest .f64 ((12 : Int) + (-1 : Int) * ((k : Nat) : Int))) := by decide +kernel
    simp only [ev_ExpNumber_L1_S, ev_ExpNumber_L1_step, expP, ih (by omega), e k (by omega)]

theorem exp_impl (x : Nat) : ev_ExpNumber_L2_S x 8 = expW (fcv .f32 .f64 x) := by
  have key : ∀ k, ev_ExpNumber_L2_S x k = expQ (expP (fop .quo .f64 (fcv .f32 .f64 x) 4643211215818981376) 12) k := by
    intro k
    induction k with
    | zero => exact exp_implP x 12 (Nat.le_refl _)
    | succ k ih => simp only [ev_ExpNumber_L2_S, ev_ExpNumber_L2_step, expQ, ih]
  unfold expW
  exact key 8

theorem exp_okc (x : Nat) (hx : expOkB x = true) : fconvOk .f64 .f32 (ev_ExpNumber_L2_S x 8) := by
  have h := expOk_6 hx
  rw [← exp_impl x] at h
  exact h

theorem exp_okr (x : Nat) : (fcv .f64 .f32 (ev_ExpNumber_L2_S x 8)) = (fcv .f64 .f32 (expW (fcv .f32 .f64 x))) := by rw [exp_impl]

theorem ev_ExpNumber (x : Nat)  (hx : expOkB x = true) : Ev Try.prog 163 [.float .f32 x] [] (.float .f32 (fcv .f64 .f32 (expW (fcv .f32 .f64 x)))) [] := by
  have e : evF Try.prog Try.f163 [.float .f32 x] [] [.b false, .b false] [([], (ev_ExpNumber_L1_I x 0 (ev_ExpNumber_L1_S x 0)), (.exit 1), ⟨[(0, .float .f32 x), (2, .float .f32 0), (3, .float .f64 (fop .quo .f64 (fcv .f32 .f64 x) 4643211215818981376)), (4, .float .f64 (ev_ExpNumber_L1_S x 12)), (5, .float .f64 (ev_ExpNumber_L1_ctr 12)), (6, .bool (fcmp .gtr .f32 x 1128792064)), (11, .bool (fcmp .lss .f32 x 3276275712))], []⟩), ([], (ev_ExpNumber_L2_I x 0 (ev_ExpNumber_L2_S x 0)), (.exit 3), ⟨[(0, .float .f32 x), (2, .float .f32 0), (3, .float .f64 (fop .quo .f64 (fcv .f32 .f64 x) 4643211215818981376)), (4, .float .f64 (ev_ExpNumber_L2_S x 8)), (5, .float .f64 (ev_ExpNumber_L1_ctr 12)), (6, .bool (fcmp .gtr .f32 x 1128792064)), (11, .bool (fcmp .lss .f32 x 3276275712)), (27, .int .i64 ((8 : Nat) : Int))], []⟩)] [] (.float .f32 (fcv .f64 .f32 (expW (fcv .f32 .f64 x)))) [] = some [((fcmp .gtr .f32 x 1128792064) = false), ((fcmp .lss .f32 x 3276275712) = false), (x = x), (0 = 0), ((fop .quo .f64 (fcv .f32 .f64 x) 4643211215818981376) = (fop .quo .f64 (fcv .f32 .f64 x) 4643211215818981376)), (4607182418800017408 = (ev_ExpNumber_L1_S x 0)), (4622945017495814144 = (ev_ExpNumber_L1_ctr 0)), ((fcmp .gtr .f32 x 1128792064) = (fcmp .gtr .f32 x 1128792064)), ((fcmp .lss .f32 x 3276275712) = (fcmp .lss .f32 x 3276275712)), (PW Try.prog 35 0 (.loop (sub [1, 1, 1, 0, 1, 0, 0] (bodyOf Try.f163))) (ev_ExpNumber_L1_I x 0 (ev_ExpNumber_L1_S x 0)) (.exit 1) ⟨[(0, .float .f32 x), (2, .float .f32 0), (3, .float .f64 (fop .quo .f64 (fcv .f32 .f64 x) 4643211215818981376)), (4, .float .f64 (ev_ExpNumber_L1_S x 12)), (5, .float .f64 (ev_ExpNumber_L1_ctr 12)), (6, .bool (fcmp .gtr .f32 x 1128792064)), (11, .bool (fcmp .lss .f32 x 3276275712))], []⟩), (x = x), (0 = 0), ((fop .quo .f64 (fcv .f32 .f64 x) 4643211215818981376) = (fop .quo .f64 (fcv .f32 .f64 x) 4643211215818981376)), ((ev_ExpNumber_L1_S x 12) = (ev_ExpNumber_L2_S x 0)), ((ev_ExpNumber_L1_ctr 12) = (ev_ExpNumber_L1_ctr 12)), ((fcmp .gtr .f32 x 1128792064) = (fcmp .gtr .f32 x 1128792064)), ((fcmp .lss .f32 x 3276275712) = (fcmp .lss .f32 x 3276275712)), ((0 : Int) = ((0 : Nat) : Int)), (PW Try.prog 35 0 (.loop (sub [1, 1, 1, 1, 0, 1, 0, 0] (bodyOf Try.f163))) (ev_ExpNumber_L2_I x 0 (ev_ExpNumber_L2_S x 0)) (.exit 3) ⟨[(0, .float .f32 x), (2, .float .f32 0), (3, .float .f64 (fop .quo .f64 (fcv .f32 .f64 x) 4643211215818981376)), (4, .float .f64 (ev_ExpNumber_L2_S x 8)), (5, .float .f64 (ev_ExpNumber_L1_ctr 12)), (6, .bool (fcmp .gtr .f32 x 1128792064)), (11, .bool (fcmp .lss .f32 x 3276275712)), (27, .int .i64 ((8 : Nat) : Int))], []⟩), (fconvOk .f64 .f32 (ev_ExpNumber_L2_S x 8)), ((fcv .f64 .f32 (ev_ExpNumber_L2_S x 8)) = (fcv .f64 .f32 (expW (fcv .f32 .f64 x))))] := by kernel_rfl
  exact Ev.of mixed _ _ _ Try.func163 (by kernel_rfl) e ⟨(expOk_1 hx), (expOk_2 hx), rfl, rfl, rfl, rfl, (by kernel_rfl), rfl, rfl, (ev_ExpNumber_L1 x hx), rfl, rfl, rfl, (by kernel_rfl), (by kernel_rfl), rfl, rfl, (by omega), (ev_ExpNumber_L2 x hx), (exp_okc x hx), (exp_okr x), trivial⟩

theorem ev_fromCode (c : Int)  (h0 : 0 ≤ c) (h1 : c ≤ 255) : Ev Try.prog 121 [.int .i64 c] [] (.float .f32 (codeF c)) [] := by
  by_cases h1 : c < (128 : Int)
  ·
    have e : evF Try.prog Try.f121 [.int .i64 c] [] [.c [] (.float .f32 (fcv .f64 .f32 (expW (fcv .f32 .f64 (fop .mul .f32 1085370904 (fop .quo .f32 (canon .f32 (FloatKind.nearest .f32 (if (if ((128 : Int) - c) > (c - (128 : Int)) then ((128 : Int) - c) else (c - (128 : Int))) < (127 : Int) then (if ((128 : Int) - c) > (c - (128 : Int)) then ((128 : Int) - c) else (c - (128 : Int))) else (127 : Int)))) 1123942400)))))) [], .b true] [] [] (.float .f32 (codeF c)) [] = some [(inR .i64 (c - (128 : Int))), (inR .i64 ((128 : Int) - c)), (Ev Try.prog 163 [.float .f32 (fop .mul .f32 1085370904 (fop .quo .f32 (canon .f32 (FloatKind.nearest .f32 (if (if ((128 : Int) - c) > (c - (128 : Int)) then ((128 : Int) - c) else (c - (128 : Int))) < (127 : Int) then (if ((128 : Int) - c) > (c - (128 : Int)) then ((128 : Int) - c) else (c - (128 : Int))) else (127 : Int)))) 1123942400))] [] (.float .f32 (fcv .f64 .f32 (expW (fcv .f32 .f64 (fop .mul .f32 1085370904 (fop .quo .f32 (canon .f32 (FloatKind.nearest .f32 (if (if ((128 : Int) - c) > (c - (128 : Int)) then ((128 : Int) - c) else (c - (128 : Int))) < (127 : Int) then (if ((128 : Int) - c) > (c - (128 : Int)) then ((128 : Int) - c) else (c - (128 : Int))) else (127 : Int)))) 1123942400)))))) []), ((decide (c < (128 : Int))) = true), ((fneg .f32 (fop .quo .f32 (fop .sub .f32 (fcv .f64 .f32 (expW (fcv .f32 .f64 (fop .mul .f32 1085370904 (fop .quo .f32 (canon .f32 (FloatKind.nearest .f32 (if (if ((128 : Int) - c) > (c - (128 : Int)) then ((128 : Int) - c) else (c - (128 : Int))) < (127 : Int) then (if ((128 : Int) - c) > (c - (128 : Int)) then ((128 : Int) - c) else (c - (128 : Int))) else (127 : Int)))) 1123942400))))) 1065353216) 1132396544)) = (codeF c))] := by kernel_rfl
    exact Ev.of mixed _ _ _ Try.func121 (by kernel_rfl) e ⟨(inR64 (by omega) (by omega)), (inR64 (by omega) (by omega)), (ev_ExpNumber (fop .mul .f32 1085370904 (fop .quo .f32 (canon .f32 (FloatKind.nearest .f32 (if (if ((128 : Int) - c) > (c - (128 : Int)) then ((128 : Int) - c) else (c - (128 : Int))) < (127 : Int) then (if ((128 : Int) - c) > (c - (128 : Int)) then ((128 : Int) - c) else (c - (128 : Int))) else (127 : Int)))) 1123942400)) (code_ok _ (by (repeat' split) <;> omega) (by (repeat' split) <;> omega))), (decide_eq_true h1), (by unfold codeF codeX; rw [codeN_impl]; first | rw [if_pos (by omega)] | rw [if_neg (by omega)]), trivial⟩
  ·
    have e : evF Try.prog Try.f121 [.int .i64 c] [] [.c [] (.float .f32 (fcv .f64 .f32 (expW (fcv .f32 .f64 (fop .mul .f32 1085370904 (fop .quo .f32 (canon .f32 (FloatKind.nearest .f32 (if (if ((128 : Int) - c) > (c - (128 : Int)) then ((128 : Int) - c) else (c - (128 : Int))) < (127 : Int) then (if ((128 : Int) - c) > (c - (128 : Int)) then ((128 : Int) - c) else (c - (128 : Int))) else (127 : Int)))) 1123942400)))))) [], .b false] [] [] (.float .f32 (codeF c)) [] = some [(inR .i64 (c - (128 : Int))), (inR .i64 ((128 : Int) - c)), (Ev Try.prog 163 [.float .f32 (fop .mul .f32 1085370904 (fop .quo .f32 (canon .f32 (FloatKind.nearest .f32 (if (if ((128 : Int) - c) > (c - (128 : Int)) then ((128 : Int) - c) else (c - (128 : Int))) < (127 : Int) then (if ((128 : Int) - c) > (c - (128 : Int)) then ((128 : Int) - c) else (c - (128 : Int))) else (127 : Int)))) 1123942400))] [] (.float .f32 (fcv .f64 .f32 (expW (fcv .f32 .f64 (fop .mul .f32 1085370904 (fop .quo .f32 (canon .f32 (FloatKind.nearest .f32 (if (if ((128 : Int) - c) > (c - (128 : Int)) then ((128 : Int) - c) else (c - (128 : Int))) < (127 : Int) then (if ((128 : Int) - c) > (c - (128 : Int)) then ((128 : Int) - c) else (c - (128 : Int))) else (127 : Int)))) 1123942400)))))) []), ((decide (c < (128 : Int))) = false), ((fop .quo .f32 (fop .sub .f32 (fcv .f64 .f32 (expW (fcv .f32 .f64 (fop .mul .f32 1085370904 (fop .quo .f32 (canon .f32 (FloatKind.nearest .f32 (if (if ((128 : Int) - c) > (c - (128 : Int)) then ((128 : Int) - c) else (c - (128 : Int))) < (127 : Int) then (if ((128 : Int) - c) > (c - (128 : Int)) then ((128 : Int) - c) else (c - (128 : Int))) else (127 : Int)))) 1123942400))))) 1065353216) 1132396544) = (codeF c))] := by kernel_rfl
    exact Ev.of mixed _ _ _ Try.func121 (by kernel_rfl) e ⟨(inR64 (by omega) (by omega)), (inR64 (by omega) (by omega)), (ev_ExpNumber (fop .mul .f32 1085370904 (fop .quo .f32 (canon .f32 (FloatKind.nearest .f32 (if (if ((128 : Int) - c) > (c - (128 : Int)) then ((128 : Int) - c) else (c - (128 : Int))) < (127 : Int) then (if ((128 : Int) - c) > (c - (128 : Int)) then ((128 : Int) - c) else (c - (128 : Int))) else (127 : Int)))) 1123942400)) (code_ok _ (by (repeat' split) <;> omega) (by (repeat' split) <;> omega))), (decide_eq_false h1), (by unfold codeF codeX; rw [codeN_impl]; first | rw [if_pos (by omega)] | rw [if_neg (by omega)]), trivial⟩

theorem ev_l00Min (a : Int) (b : Int)  : Ev Try.prog 103 [.int .i64 a, .int .i64 b] [] (.int .i64 (if a < b then a else b)) [] := by
  by_cases h1 : a < b
  ·
    have e : evF Try.prog Try.f103 [.int .i64 a, .int .i64 b] [] [.b true] [] [] (.int .i64 (if a < b then a else b)) [] = some [((decide (a < b)) = true), (a = (if a < b then a else b))] := by kernel_rfl
    exact Ev.of mixed _ _ _ Try.func103 (by kernel_rfl) e ⟨(decide_eq_true h1), (by first | (simp [-List.getD_eq_getElem?_getD, h1]; done) | (simp_all [-List.getD_eq_getElem?_getD, ]; done)), trivial⟩
  ·
    have e : evF Try.prog Try.f103 [.int .i64 a, .int .i64 b] [] [.b false] [] [] (.int .i64 (if a < b then a else b)) [] = some [((decide (a < b)) = false), (b = (if a < b then a else b))] := by kernel_rfl
    exact Ev.of mixed _ _ _ Try.func103 (by kernel_rfl) e ⟨(decide_eq_false h1), (by first | (simp [-List.getD_eq_getElem?_getD, h1]; done) | (simp_all [-List.getD_eq_getElem?_getD, ]; done)), trivial⟩

def fromCodeF (c : Int) : Nat × Bool := (if c ≥ (0 : Int) then (if c ≤ (255 : Int) then ((codeF c), true) else (0, false)) else (0, false))

theorem ev_impl_FromCode (c : Int)  : Ev Try.prog 49 [.int .i64 c] [] (.tuple ⟨[.float .f32 (fromCodeF c).1, .bool (fromCodeF c).2]⟩) [] := by
  by_cases h1 : c ≥ (0 : Int)
  ·
    by_cases h2 : c ≤ (255 : Int)
    ·
      have e : evF Try.prog Try.f49 [.int .i64 c] [] [.c [] (.bool ((decide (c ≥ (0 : Int))) && (decide (c ≤ (255 : Int))))) [], .b false, .c [] (.float .f32 (codeF c)) []] [] [] (.tuple ⟨[.float .f32 (fromCodeF c).1, .bool (fromCodeF c).2]⟩) [] = some [(Ev Try.prog 91 [.int .i64 c, .int .i64 (0 : Int), .int .i64 (255 : Int)] [] (.bool ((decide (c ≥ (0 : Int))) && (decide (c ≤ (255 : Int))))) []), ((!((decide (c ≥ (0 : Int))) && (decide (c ≤ (255 : Int))))) = false), (Ev Try.prog 121 [.int .i64 c] [] (.float .f32 (codeF c)) []), ((codeF c) = (fromCodeF c).1), (true = (fromCodeF c).2)] := by kernel_rfl
      exact Ev.of mixed _ _ _ Try.func49 (by kernel_rfl) e ⟨(ev_within (c) ((0 : Int)) ((255 : Int))), (congrArg Bool.not (and_tt (decide_eq_true h1) (decide_eq_true h2))), (ev_fromCode (c) (by omega) (by omega)), (by first | (simp [-List.getD_eq_getElem?_getD, fromCodeF, h1, h2]; done) | (simp_all [-List.getD_eq_getElem?_getD, fromCodeF]; done)), (by first | (simp [-List.getD_eq_getElem?_getD, fromCodeF, h1, h2]; done) | (simp_all [-List.getD_eq_getElem?_getD, fromCodeF]; done)), trivial⟩
    ·
      have e : evF Try.prog Try.f49 [.int .i64 c] [] [.c [] (.bool ((decide (c ≥ (0 : Int))) && (decide (c ≤ (255 : Int))))) [], .b true] [] [] (.tuple ⟨[.float .f32 (fromCodeF c).1, .bool (fromCodeF c).2]⟩) [] = some [(Ev Try.prog 91 [.int .i64 c, .int .i64 (0 : Int), .int .i64 (255 : Int)] [] (.bool ((decide (c ≥ (0 : Int))) && (decide (c ≤ (255 : Int))))) []), ((!((decide (c ≥ (0 : Int))) && (decide (c ≤ (255 : Int))))) = true), (0 = (fromCodeF c).1), (false = (fromCodeF c).2)] := by kernel_rfl
      exact Ev.of mixed _ _ _ Try.func49 (by kernel_rfl) e ⟨(ev_within (c) ((0 : Int)) ((255 : Int))), (congrArg Bool.not (and_fr (decide_eq_false h2))), (by first | (simp [-List.getD_eq_getElem?_getD, fromCodeF, h1, h2]; done) | (simp_all [-List.getD_eq_getElem?_getD, fromCodeF]; done)), (by first | (simp [-List.getD_eq_getElem?_getD, fromCodeF, h1, h2]; done) | (simp_all [-List.getD_eq_getElem?_getD, fromCodeF]; done)), trivial⟩
  ·
    have e : evF Try.prog Try.f49 [.int .i64 c] [] [.c [] (.bool ((decide (c ≥ (0 : Int))) && (decide (c ≤ (255 : Int))))) [], .b true] [] [] (.tuple ⟨[.float .f32 (fromCodeF c).1, .bool (fromCodeF c).2]⟩) [] = some [(Ev Try.prog 91 [.int .i64 c, .int .i64 (0 : Int), .int .i64 (255 : Int)] [] (.bool ((decide (c ≥ (0 : Int))) && (decide (c ≤ (255 : Int))))) []), ((!((decide (c ≥ (0 : Int))) && (decide (c ≤ (255 : Int))))) = true), (0 = (fromCodeF c).1), (false = (fromCodeF c).2)] := by kernel_rfl
    exact Ev.of mixed _ _ _ Try.func49 (by kernel_rfl) e ⟨(ev_within (c) ((0 : Int)) ((255 : Int))), (congrArg Bool.not (and_fl (decide_eq_false h1))), (by first | (simp [-List.getD_eq_getElem?_getD, fromCodeF, h1]; done) | (simp_all [-List.getD_eq_getElem?_getD, fromCodeF]; done)), (by first | (simp [-List.getD_eq_getElem?_getD, fromCodeF, h1]; done) | (simp_all [-List.getD_eq_getElem?_getD, fromCodeF]; done)), trivial⟩

end Go.Sim
