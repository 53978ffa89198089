/- What the law FnWindows says of sounds that are drawn. Conditions: none. -/

import Derived.Test.YtgjdkhocnnoimaaProg
import Derived.KernelRfl
import Derived.Test.YtgjdkhocnnoimaaGbk
import Derived.Test.YtgjdkhocnnoimaaGws
import Derived.Test.YtgjdkhocnnoimaaGwi
import Derived.Test.YtgjdkhocnnoimaaGbn
import Derived.Test.YtgjdkhocnnoimaaGp
import Derived.Test.YtgjdkhocnnoimaaGbs
import Derived.Test.YtgjdkhocnnoimaaGgp
import Derived.Test.YtgjdkhocnnoimaaPwB
import Derived.Test.YtgjdkhocnnoimaaPu2

set_option linter.unusedSimpArgs false

set_option linter.unusedVariables false

namespace Go.Sim

open Go Go.Proofs

/-! ### Windows -/

def wnOk (n : Nat) (d : Nat) (k : Nat) : Bool := finB .f32 (winAt (d : Int) k (n : Int)) && !fcmp .lss .f32 (winAt (d : Int) k (n : Int)) 3129152111 && !fcmp .gtr .f32 (winAt (d : Int) k (n : Int)) 1065361605 &&
  (!Nat.beq d 0 || !fcmp .neq .f32 (winAt (d : Int) k (n : Int)) 1065353216) && (!Nat.beq d 1 || !fcmp .gtr .f64 (gapB (fcv .f32 .f64 (winAt (d : Int) k (n : Int))) (fcv .f32 .f64 (winAt (d : Int) (n - 1 - k) (n : Int)))) 4562254508917369340)
theorem win_tab : ((List.range 16).all fun i => (List.range 4).all fun d => (List.range (i + 1)).all fun k => wnOk (i + 1) d k) = true := by decide +kernel

theorem winL_get (d c : Int) {n k : Nat} (hk : k < n) : List.getD (winL d c n) k 0 = winAt d k c := by simp [winL, hk]

theorem win_at {n d k : Nat} (h1 : 1 ≤ n) (h2 : n ≤ 16) (hd : d < 4) (hk : k < n) : wnOk n d k = true := by
  have := all_r (all_r (all_r win_tab (k := n - 1) (by omega)) (k := d) hd) (k := k) (by omega)
  rwa [show n - 1 + 1 = n by omega] at this

theorem wn_fl {n d k : Nat} (h : wnOk n d k = true) : isFl .f32 (winAt (d : Int) k (n : Int)) ∧ fv .f32 (winAt (d : Int) k (n : Int)) ≤ 2 ∧ -2 ≤ fv .f32 (winAt (d : Int) k (n : Int)) := by
  unfold wnOk at h
  simp only [Bool.and_eq_true, Bool.not_eq_true'] at h
  obtain ⟨⟨⟨⟨h1, h2⟩, h3⟩, _⟩, _⟩ := h
  have f := finB_fl h1
  have a : isFl .f32 3129152111 ∧ -2 ≤ fv .f32 3129152111 := ⟨finB_fl (by decide +kernel), by decide +kernel⟩
  have b : isFl .f32 1065361605 ∧ fv .f32 1065361605 ≤ 2 := ⟨finB_fl (by decide +kernel), by decide +kernel⟩
  rw [Bool.eq_false_iff, ne_eq, lss_iff f a.1] at h2
  rw [Bool.eq_false_iff, ne_eq, gtr_iff f b.1] at h3
  exact ⟨f, by grind, by grind⟩

theorem allFin_mapW {n : Nat} {f : Nat → Nat} (h : ∀ k, k < n → fin32 (f k) = true) : allFin ((List.range n).map f) = true := by
  refine allBelow_true.2 fun k hk => ?_
  have hk : k < n := by simpa using hk
  have : ((List.range n).map f).getD k 0 = f k := by simp [hk]
  rw [this]; exact h k hk

structure WnOk (X : List Nat) (N d : Int) (W WS : List Nat × Bool) (Sp : List (Nat × Nat) × Bool) (K P : List Nat × Bool) : Prop where
  xl : ((X.length : Nat) : Int) = N
  wo : W.2 = true
  wl : ((W.1.length : Nat) : Int) = N
  so : WS.2 = true
  sl : ((WS.1.length : Nat) : Int) = N
  w1 : ∀ k, k < X.length → fcmp .lss .f32 (List.getD W.1 k 0) 3129152111 = false
  w2 : ∀ k, k < X.length → fcmp .gtr .f32 (List.getD W.1 k 0) 1065361605 = false
  w3 : d = 0 → ∀ k, k < X.length → fcmp .neq .f32 (List.getD W.1 k 0) 1065353216 = false
  w4 : ∀ k, k < X.length → fcmp .neq .f32 (List.getD WS.1 k 0) (fop .mul .f32 (List.getD X k 0) (List.getD W.1 k 0)) = false
  w5 : d = 1 → ∀ k j, k < X.length → j = (N - 1).toNat - k → fcmp .gtr .f64 (gapB (fcv .f32 .f64 (List.getD W.1 k 0)) (fcv .f32 .f64 (List.getD W.1 j 0))) 4562254508917369340 = false
  po : Sp.2 = true
  pl : ((Sp.1.length : Nat) : Int) = N
  pb : bndC Sp.1
  ko : K.2 = true
  kl : ((K.1.length : Nat) : Int) = N
  kn : ∀ k, k < X.length → fcmp .gtr .f64 (gapB (fcv .f32 .f64 (List.getD K.1 k 0)) (fcv .f32 .f64 (List.getD X k 0))) 4562254508917369340 = false
  qo : P.2 = true
  ql : ((P.1.length : Nat) : Int) = N
  al : ∀ S : Nat → Nat × Nat, S 0 = (0, 0) → (∀ j, S (j + 1) = (fop .add .f64 (S j).1 (fop .mul .f64 (fcv .f32 .f64 (List.getD X j 0)) (fcv .f32 .f64 (List.getD X j 0))), fop .add .f64 (S j).2 (fcv .f32 .f64 (List.getD P.1 j 0)))) →
    fcmp .gtr .f64 (gapB (S X.length).2 (fop .mul .f64 (S X.length).1 (canon .f64 (FloatKind.nearest .f64 N)))) (fop .mul .f64 4562254508917369340 (S X.length).2) = false
  bo : ∀ c : Int, 0 ≤ c → c ≤ N → (bandsF P.1 [(0 : Int), c, N]).2 = true ∧ (((bandsF P.1 [(0 : Int), c, N]).1.length : Nat) : Int) = 2
  bn : ∀ c : Int, 0 ≤ c → c ≤ N → ∀ S : Nat → Nat × Nat, S 0 = (0, 0) → (∀ j, S (j + 1) = (fop .add .f64 (S j).1 (fop .mul .f64 (fcv .f32 .f64 (List.getD X j 0)) (fcv .f32 .f64 (List.getD X j 0))), fop .add .f64 (S j).2 (fcv .f32 .f64 (List.getD P.1 j 0)))) →
    fcmp .gtr .f64 (gapB (fop .add .f64 (fcv .f32 .f64 (List.getD (bandsF P.1 [(0 : Int), c, N]).1 0 0)) (fcv .f32 .f64 (List.getD (bandsF P.1 [(0 : Int), c, N]).1 1 0))) (S X.length).2) (fop .mul .f64 4562254508917369340 (S X.length).2) = false
  co : (centreF P.1).2 = true
  c1 : fcmp .geq .f32 (centreF P.1).1 3129152111 = true
  c2 : fcmp .leq .f64 (fcv .f32 .f64 (centreF P.1).1) (fop .add .f64 (fop .sub .f64 (canon .f64 (FloatKind.nearest .f64 N)) 4607182418800017408) 4562254508917369340) = true

section
variable {vs : List Int} {n : Nat}

theorem winSF_t (hv : small8 vs) (hl : vs.length = n) (h1 : 1 ≤ n) (h2 : n ≤ 16) {d : Nat} (hd : d < 4) : winSF (vs.map cvI) (winL (d : Int) (n : Int) n) = ((List.range n).map (fun k => fop .mul .f32 (cvI (vs.getD k 0)) (winAt (d : Int) k (n : Int))), true) ∧
    ∀ k, k < n → isFl .f32 (fop .mul .f32 (cvI (vs.getD k 0)) (winAt (d : Int) k (n : Int))) := by
  have hf : ∀ k, k < n → isFl .f32 (fop .mul .f32 (cvI (vs.getD k 0)) (winAt (d : Int) k (n : Int))) := fun k hk => by
    obtain ⟨f, a, b⟩ := wn_fl (win_at h1 h2 hd hk)
    obtain ⟨x1, x2, x3, x4⟩ := getD_fl hv (j := k) (by omega)
    rw [getD_cvI] at x1 x2
    have r := mul_Rd x1 f
    rw [x2] at r
    obtain ⟨m1, m2⟩ := mul_bd x3 x4 a b
    exact (rnd32 r (B := 16) (by grind) (by grind) (by grind) (by grind)).1
  refine ⟨?_, hf⟩
  have hS : ev_changedW_L1_S (vs.map cvI) n (winL (d : Int) (n : Int) n) n n = (List.range n).map (fun k => fop .mul .f32 (cvI (vs.getD k 0)) (winAt (d : Int) k (n : Int))) := by
    rw [set_all n (fun k => fop .mul .f32 (List.getD (vs.map cvI) k 0) (List.getD (winL (d : Int) (n : Int) n) k 0)) (ev_changedW_L1_S (vs.map cvI) n (winL (d : Int) (n : Int) n) n) (by simp [ev_changedW_L1_S]) (fun _ => rfl)]
    refine List.map_congr_left fun k hk => ?_
    have hk := List.mem_range.1 hk
    rw [getD_cvI, winL_get _ _ hk]
  have hw : isSnd (winL (d : Int) (n : Int) n) = true := by
    simp only [isSnd, Bool.and_eq_true, decide_eq_true_eq]
    refine ⟨by rw [winL_len]; omega, ?_⟩
    exact allFin_mapW fun k hk => fin32_isF.2 (wn_fl (win_at h1 h2 hd hk)).1
  unfold winSF
  rw [if_pos hw, if_pos (by rw [List.length_map, winL_len, hl])]
  unfold changedW
  rw [if_pos (isSnd_int hv (by omega)), List.length_map, winL_len, hl, hS, if_pos (allFin_mapW fun k hk => fin32_isF.2 (hf k hk))]

theorem spectrum_ok (hv : small8 vs) (hl : vs.length = n) (h1 : 1 ≤ n) (h2 : n ≤ 16) : spectrumF (vs.map cvI) (n : Int) = (specL (vs.map cvI) (n : Int) n, true) ∧ bndC (specL (vs.map cvI) (n : Int) n) := by
  have hW := aw_le hv n (by omega)
  have hd := dW_le h1 h2 hW.1 hW.2
  have hW128 : ((aw vs n : Nat) : Rat) ≤ 128 := natR_le (b := 128) (by omega)
  have b1 : isFl .f32 3279945728 ∧ fv .f32 3279945728 = -256 := ⟨finB_fl (by decide +kernel), by decide +kernel⟩
  have b2 : isFl .f32 1132462080 ∧ fv .f32 1132462080 = 256 := ⟨finB_fl (by decide +kernel), by decide +kernel⟩
  have key : ∀ m, bndX (specS (vs.map cvI) (n : Int) m n).1 ∧ bndX (specS (vs.map cvI) (n : Int) m n).2 := fun m => by
    obtain ⟨⟨f1, g1, g1'⟩, f2, g2, g2'⟩ := spec_err hv hl h1 h2 m
    obtain ⟨⟨a1, a2⟩, a3, a4⟩ := aT_bd vs h1 h2 m n
    have ea : aR vs n m = sumR (aT vs n m) n := rfl
    have eb : bR vs n m = sumR (bT vs n m) n := rfl
    exact ⟨⟨f1, b1.1, b2.1, by rw [b1.2]; grind, by rw [b2.2]; grind⟩, ⟨f2, b1.1, b2.1, by rw [b1.2]; grind, by rw [b2.2]; grind⟩⟩
  have hlen : (vs.map cvI).length = n := by rw [List.length_map, hl]
  have hfin : allFinC (specL (vs.map cvI) (n : Int) n) = true := by
    rw [allFinC_specL, hlen]
    refine allBelow_true.2 fun m _ => ?_
    rw [fin32_isF.2 (key m).1.fx, fin32_isF.2 (key m).2.fx]; rfl
  refine ⟨?_, fun k => ?_⟩
  · exact spectrum_t (isSnd_int hv (by omega)) (by omega) (by omega) (by rw [Int.toNat_natCast]) hfin
  · rcases Nat.lt_or_ge k n with hk | hk
    · rw [specL_get _ _ hk, hlen]; exact key k
    · rw [getD_noneC hk]
      have z := zero_fl .f32
      exact ⟨⟨z.1, b1.1, b2.1, by rw [b1.2, z.2]; grind, by rw [b2.2, z.2]; grind⟩, ⟨z.1, b1.1, b2.1, by rw [b1.2, z.2]; grind, by rw [b2.2, z.2]; grind⟩⟩
where
  getD_noneC {xs : List Nat} {c : Int} {n k : Nat} (hk : n ≤ k) : List.getD (specL xs c n) k (0, 0) = (0, 0) := by
    rw [List.getD_eq_getElem?_getD, List.getElem?_eq_none (by rw [specL_len]; exact hk)]; rfl

theorem back_ok (hv : small8 vs) (hl : vs.length = n) (h1 : 1 ≤ n) (h2 : n ≤ 16) : ∃ L : List Nat, backF (specL (vs.map cvI) (n : Int) n) = (L, true) ∧ L.length = n ∧ ∀ k, k < n → isFl .f32 (List.getD L k 0) ∧ nr (82 / 100000) (fv .f32 (List.getD L k 0)) ((vs.getD k 0 : Int) : Rat) := by
  have hin : ∀ k s1 s2 j, ev_Back_L2_S (specL (vs.map cvI) (n : Int) n) n k s1 j = ev_Back_L2_S (specL (vs.map cvI) (n : Int) n) n k s2 j := by
    intro k s1 s2 j
    induction j with
    | zero => rfl
    | succ j ih => simp only [ev_Back_L2_S, ev_Back_L2_step, ih]
  have hS := set_all n (fun k => fop .quo .f32 (ev_Back_L2_S (specL (vs.map cvI) (n : Int) n) n k [] n).1 (canon .f32 (FloatKind.nearest .f32 ((n : Nat) : Int)))) (ev_Back_L1_S (specL (vs.map cvI) (n : Int) n) n) (by simp [ev_Back_L1_S]) (fun k => by
    show List.set _ k _ = List.set _ k _
    rw [hin k _ []])
  have hk : ∀ k, k < n → isFl .f32 (fop .quo .f32 (ev_Back_L2_S (specL (vs.map cvI) (n : Int) n) n k [] n).1 (canon .f32 (FloatKind.nearest .f32 ((n : Nat) : Int)))) ∧ nr (82 / 100000) (fv .f32 (fop .quo .f32 (ev_Back_L2_S (specL (vs.map cvI) (n : Int) n) n k [] n).1 (canon .f32 (FloatKind.nearest .f32 ((n : Nat) : Int))))) ((vs.getD k 0 : Int) : Rat) := fun k hk =>
    back_err hv hl h1 h2 hk (fun j => (ev_Back_L2_S (specL (vs.map cvI) (n : Int) n) n k [] j).1) rfl (fun _ => rfl)
  refine ⟨(List.range n).map (fun k => fop .quo .f32 (ev_Back_L2_S (specL (vs.map cvI) (n : Int) n) n k [] n).1 (canon .f32 (FloatKind.nearest .f32 ((n : Nat) : Int)))), ?_, ?_, ?_⟩
  · unfold backF
    rw [specL_len, if_pos h1, if_pos (by omega), hS, if_pos (allFin_mapW fun k h => fin32_isF.2 (hk k h).1)]
  · simp
  · intro k h
    have : List.getD ((List.range n).map (fun k => fop .quo .f32 (ev_Back_L2_S (specL (vs.map cvI) (n : Int) n) n k [] n).1 (canon .f32 (FloatKind.nearest .f32 ((n : Nat) : Int))))) k 0 = fop .quo .f32 (ev_Back_L2_S (specL (vs.map cvI) (n : Int) n) n k [] n).1 (canon .f32 (FloatKind.nearest .f32 ((n : Nat) : Int))) := by simp [h]
    rw [this]; exact hk k h

theorem powers_ok (hv : small8 vs) (hl : vs.length = n) (h1 : 1 ≤ n) (h2 : n ≤ 16) : powersF (specL (vs.map cvI) (n : Int) n) = (pwL vs n, true) := by
  have hlen : (vs.map cvI).length = n := by rw [List.length_map, hl]
  have hS : ev_Powers_L1_S (specL (vs.map cvI) (n : Int) n) n n = pwL vs n := by
    rw [set_all n (fun k => fcv .f64 .f32 (poW (List.getD (specL (vs.map cvI) (n : Int) n) k (0, 0)).1 (List.getD (specL (vs.map cvI) (n : Int) n) k (0, 0)).2)) (ev_Powers_L1_S (specL (vs.map cvI) (n : Int) n) n) (by simp [ev_Powers_L1_S]) (fun _ => rfl)]
    refine List.map_congr_left fun k hk => ?_
    have hk := List.mem_range.1 hk
    rw [specL_get _ _ hk, hlen]; rfl
  unfold powersF
  rw [specL_len, if_pos h1, if_pos (by omega), hS, if_pos (pwL_ge hv hl h1 h2).2]

theorem bands_ok (hv : small8 vs) (hl : vs.length = n) (h1 : 1 ≤ n) (h2 : n ≤ 16) {c : Nat} (hc : c ≤ n) : bandsF (pwL vs n) [(0 : Int), (c : Int), (n : Int)] = ([sumFrom (pwL vs n) 0 c, sumFrom (pwL vs n) c (n - c)], true) := by
  have hL : bandL (pwL vs n) [(0 : Int), (c : Int), (n : Int)] 2 = [sumFrom (pwL vs n) 0 c, sumFrom (pwL vs n) c (n - c)] := by
    show [bandAt _ _ 0, bandAt _ _ 1] = _
    unfold bandAt
    simp
  have hf : allFin [sumFrom (pwL vs n) 0 c, sumFrom (pwL vs n) c (n - c)] = true := by
    have a := fin32_isF.2 (from_near hv hl h1 h2 (i := 0) (m := c) (by omega)).1
    have b := fin32_isF.2 (from_near hv hl h1 h2 (i := c) (m := n - c) (by omega)).1
    show ((true && fin32 (sumFrom (pwL vs n) 0 c)) && fin32 (sumFrom (pwL vs n) c (n - c))) = true
    rw [a, b]; rfl
  refine bands_t (by rw [pwL_len]; omega) (pwL_ge hv hl h1 h2).1 (by show 2 ≤ 3; omega) (by show 3 ≤ 64; omega) ?_ ?_ (by exact hL.symm) hf
  · show ((true && !decide ((c : Int) < 0)) && !decide ((n : Int) < (c : Int))) = true
    rw [decide_eq_false (show ¬ (c : Int) < 0 by omega), decide_eq_false (show ¬ (n : Int) < (c : Int) by omega)]; rfl
  · rw [pwL_len]
    show (((true && (decide ((0 : Int) ≤ 0) && decide ((0 : Int) ≤ (n : Int)))) && (decide ((0 : Int) ≤ (c : Int)) && decide ((c : Int) ≤ (n : Int)))) && (decide ((0 : Int) ≤ (n : Int)) && decide ((n : Int) ≤ (n : Int)))) = true
    rw [decide_eq_true (show (0 : Int) ≤ 0 by omega), decide_eq_true (show (0 : Int) ≤ (n : Int) by omega), decide_eq_true (show (0 : Int) ≤ (c : Int) by omega), decide_eq_true (show (c : Int) ≤ (n : Int) by omega), decide_eq_true (show (n : Int) ≤ (n : Int) by omega)]; rfl

theorem centre_ok (hv : small8 vs) (hl : vs.length = n) (h1 : 1 ≤ n) (h2 : n ≤ 16) : ∃ x : Nat, centreF (pwL vs n) = (x, true) ∧ isFl .f32 x ∧ -(1 / 10000) ≤ fv .f32 x ∧ fv .f32 x ≤ (n : Rat) - 1 + 2 / 10000 := by
  obtain ⟨c1, c2, c3, c4⟩ := centre_near hv hl h1 h2 (ev_impl_Centre_L1_S (pwL vs n) n) rfl (fun _ => rfl)
  refine ⟨_, ?_, c2, c3, c4⟩
  unfold centreF
  rw [pwL_len, if_pos (by omega), if_pos (pwL_ge hv hl h1 h2).1, if_pos c1, fin32_isF.2 c2]; rfl
end

theorem wnOk_all {vs : List Int} (hv : small8 vs) {N : Int} (hl : ((vs.length : Nat) : Int) = N) (h1 : 1 ≤ N) (h2 : N ≤ 16) {d : Int} (hd0 : 0 ≤ d) (hd : d < 4) :
    WnOk (vs.map cvI) N d (windowF d N) (winSF (vs.map cvI) (windowF d N).1) (spectrumF (vs.map cvI) N) (backF (spectrumF (vs.map cvI) N).1) (powersF (spectrumF (vs.map cvI) N).1) := by
  obtain ⟨e, rfl⟩ := Int.eq_ofNat_of_zero_le hd0
  subst hl
  generalize hn : vs.length = n at *
  have hn1 : 1 ≤ n := by omega
  have hn2 : n ≤ 16 := by omega
  have hX : (vs.map cvI).length = n := by rw [List.length_map, hn]
  have W : windowF (e : Int) (n : Int) = (winL (e : Int) (n : Int) n, true) := by
    unfold windowF; rw [if_pos ⟨by omega, by omega, by omega, by omega⟩, Int.toNat_natCast]
  obtain ⟨WS, wf⟩ := winSF_t hv hn hn1 hn2 (d := e) (by omega)
  obtain ⟨S, sb⟩ := spectrum_ok hv hn hn1 hn2
  obtain ⟨L, K, kl, kn⟩ := back_ok hv hn hn1 hn2
  have P := powers_ok hv hn hn1 hn2
  obtain ⟨x, C, x1, x2, x3⟩ := centre_ok hv hn hn1 hn2
  have hwn := fun k (hk : k < n) => win_at hn1 hn2 (d := e) (by omega) hk
  rw [W, WS, S, K, P]
  have hsum : ∀ S : Nat → Nat × Nat, S 0 = (0, 0) → (∀ j, S (j + 1) = (fop .add .f64 (S j).1 (fop .mul .f64 (fcv .f32 .f64 (List.getD (vs.map cvI) j 0)) (fcv .f32 .f64 (List.getD (vs.map cvI) j 0))), fop .add .f64 (S j).2 (fcv .f32 .f64 (List.getD (pwL vs n) j 0)))) →
      (isFl .f64 (S n).1 ∧ nr (1 / 1000000) (fv .f64 (S n).1) (sq vs n : Rat)) ∧ (isFl .f64 (S n).2 ∧ nr (1 / 1000000) (fv .f64 (S n).2) (PT vs n)) := fun S h0 hs =>
    ⟨sqs_near hv hn hn2 (fun j => (S j).1) (by rw [h0]) (fun j => by rw [hs]), all_near hv hn hn1 hn2 (fun j => (S j).2) (by rw [h0]) (fun j => List.getD (pwL vs n) j 0) (fun j hj => pwL_get vs hj) (fun j => by rw [hs])⟩
  have g32 : ∀ {a b : Nat}, isFl .f32 a → isFl .f32 b → nr (82 / 100000) (fv .f32 a) (fv .f32 b) → fcmp .gtr .f64 (gapB (fcv .f32 .f64 a) (fcv .f32 .f64 b)) 4562254508917369340 = false := fun fa fb h => gap32 fa fb h
  refine { xl := by rw [hX], wo := rfl, wl := by show ((List.length (winL _ _ _) : Nat) : Int) = _; rw [winL_len], so := rfl, sl := by show ((List.length (List.map _ _) : Nat) : Int) = _; simp, w1 := ?_, w2 := ?_, w3 := ?_, w4 := ?_, w5 := ?_, po := rfl, pl := by show ((List.length (specL _ _ _) : Nat) : Int) = _; rw [specL_len], pb := sb, ko := rfl, kl := by show ((List.length L : Nat) : Int) = _; rw [kl], kn := ?_, qo := rfl, ql := by show ((List.length (pwL _ _) : Nat) : Int) = _; rw [pwL_len], al := ?_, bo := ?_, bn := ?_, co := by show (centreF (pwL vs n)).2 = true; rw [C], c1 := ?_, c2 := ?_ }
  · intro k hk
    rw [hX] at hk
    have h := hwn k hk
    unfold wnOk at h
    simp only [Bool.and_eq_true, Bool.not_eq_true'] at h
    show fcmp .lss .f32 (List.getD (winL _ _ _) k 0) _ = false
    rw [winL_get _ _ hk]; exact h.1.1.1.2
  · intro k hk
    rw [hX] at hk
    have h := hwn k hk
    unfold wnOk at h
    simp only [Bool.and_eq_true, Bool.not_eq_true'] at h
    show fcmp .gtr .f32 (List.getD (winL _ _ _) k 0) _ = false
    rw [winL_get _ _ hk]; exact h.1.1.2
  · intro h0 k hk
    rw [hX] at hk
    have h := hwn k hk
    have he : e = 0 := by omega
    subst he
    unfold wnOk at h
    simp only [Bool.and_eq_true, Bool.or_eq_true, Bool.not_eq_true'] at h
    show fcmp .neq .f32 (List.getD (winL _ _ _) k 0) _ = false
    rw [winL_get _ _ hk]
    rcases h.1.2 with h' | h'
    · cases h'
    · exact h'
  · intro k hk
    rw [hX] at hk
    show fcmp .neq .f32 (List.getD (List.map _ _) k 0) (fop .mul .f32 _ (List.getD (winL _ _ _) k 0)) = false
    rw [winL_get _ _ hk, getD_cvI]
    have hg : List.getD ((List.range n).map (fun k => fop .mul .f32 (cvI (vs.getD k 0)) (winAt (e : Int) k (n : Int)))) k 0 = fop .mul .f32 (cvI (vs.getD k 0)) (winAt (e : Int) k (n : Int)) := by simp [hk]
    rw [hg]
    exact neq_self (isF_notN (wf k hk))
  · intro h0 k j hk hj
    subst hj
    rw [hX] at hk
    have h := hwn k hk
    have he : e = 1 := by omega
    subst he
    unfold wnOk at h
    simp only [Bool.and_eq_true, Bool.or_eq_true, Bool.not_eq_true'] at h
    show fcmp .gtr .f64 (gapB (fcv .f32 .f64 (List.getD (winL _ _ _) k 0)) (fcv .f32 .f64 (List.getD (winL _ _ _) (((n : Int) - 1).toNat - k) 0))) _ = false
    rw [show ((n : Int) - 1).toNat - k = n - 1 - k by omega, winL_get _ _ hk, winL_get _ _ (show n - 1 - k < n by omega)]
    rcases h.2 with h' | h'
    · cases h'
    · exact h'
  · intro k hk
    rw [hX] at hk
    obtain ⟨f1, f2⟩ := kn k hk
    obtain ⟨y1, y2, _⟩ := getD_fl hv (j := k) (by omega)
    exact g32 f1 y1 (by rw [y2]; exact f2)
  · intro Q h0 hs
    rw [hX]
    obtain ⟨a, b⟩ := hsum Q h0 hs
    exact gap_all hv hn hn1 hn2 b a
  · intro c c0 cn
    obtain ⟨c, rfl⟩ := Int.eq_ofNat_of_zero_le c0
    rw [bands_ok hv hn hn1 hn2 (c := c) (by omega)]
    exact ⟨rfl, rfl⟩
  · intro c c0 cn Q h0 hs
    obtain ⟨c, rfl⟩ := Int.eq_ofNat_of_zero_le c0
    rw [hX, bands_ok hv hn hn1 hn2 (c := c) (by omega)]
    obtain ⟨a, b⟩ := hsum Q h0 hs
    exact gap_bands hv hn hn1 hn2 (c := c) (by omega) b rfl
  · show fcmp .geq .f32 (centreF (pwL vs n)).1 _ = true
    rw [C]
    have a : isFl .f32 3129152111 ∧ fv .f32 3129152111 ≤ -(9 / 10000) := ⟨finB_fl (by decide +kernel), by decide +kernel⟩
    rw [geq_iff x1 a.1]; grind
  · show fcmp .leq .f64 (fcv .f32 .f64 (centreF (pwL vs n)).1) _ = true
    rw [C]
    obtain ⟨u1, u2⟩ := fcv_up x1
    obtain ⟨i1, i2⟩ := int_exact (k := .f64) (n : Int) (by omega)
    rw [Rat.intCast_natCast] at i2
    have o : isFl .f64 4607182418800017408 ∧ fv .f64 4607182418800017408 = 1 := ⟨finB_fl (by decide +kernel), by decide +kernel⟩
    obtain ⟨c1, c2, c3⟩ := c001
    have n16 : (n : Rat) ≤ 16 := natR_le (b := 16) hn2
    have n1 : (1 : Rat) ≤ (n : Rat) := natR_le (a := 1) hn1
    have r1 := sub_Rd i1 o.1
    rw [i2, o.2] at r1
    obtain ⟨f1, m1, m1'⟩ := rnd64 r1 (B := 16) (by grind) (by grind) (by grind) (by grind)
    obtain ⟨f2, m2, m2'⟩ := rnd64 (add_Rd f1 c1) (B := 17) (by grind) (by grind) (by grind) (by grind)
    rw [leq_iff u1 f2, u2]; grind

abbrev wnX (c : List Int) : List Nat := b10SoundF c ((1 : Int) + (atB c (0 : Int) (16 : Int)))
abbrev wnW (c m : List Int) : List Nat × Bool := windowF (atB m (0 : Int) (4 : Int)) ((1 : Int) + (atB c (0 : Int) (16 : Int)))
abbrev wnV (c m : List Int) : List Nat × Bool := winSF (wnX c) (wnW c m).1
abbrev wnS (c : List Int) : List (Nat × Nat) × Bool := spectrumF (wnX c) ((1 : Int) + (atB c (0 : Int) (16 : Int)))
abbrev wnK (c : List Int) : List Nat × Bool := backF (wnS c).1
abbrev wnP (c : List Int) : List Nat × Bool := powersF (wnS c).1

theorem wn_law {c m : List Int} (hb : bytesOk c) (hm : bytesOk m) : WnOk (wnX c) ((1 : Int) + (atB c (0 : Int) (16 : Int))) (atB m (0 : Int) (4 : Int)) (wnW c m) (wnV c m) (wnS c) (wnK c) (wnP c) := by
  have a := atB_range hb (i := 0) (n := 16) (by omega) (by omega)
  have b := atB_range hm (i := 0) (n := 4) (by omega) (by omega)
  obtain ⟨vs, hl, hw, hv⟩ := b10_sound hb (n := (1 : Int) + (atB c (0 : Int) (16 : Int)))
  have := wnOk_all hv (N := (1 : Int) + (atB c (0 : Int) (16 : Int))) (d := atB m (0 : Int) (4 : Int)) (by omega) (by omega) (by omega) (by omega) (by omega)
  rw [← hw] at this
  exact this

end Go.Sim
