/- What the law FnFramed says of sounds that are drawn. Conditions: none. -/

import Derived.Test.YtgjdkhocnnoimaaProg
import Derived.KernelRfl
import Derived.Test.YtgjdkhocnnoimaaGft
import Derived.Test.YtgjdkhocnnoimaaGfo
import Derived.Test.YtgjdkhocnnoimaaGld
import Derived.Test.YtgjdkhocnnoimaaGjf
import Derived.Test.YtgjdkhocnnoimaaGrs
import Derived.Test.YtgjdkhocnnoimaaGth
import Derived.Test.YtgjdkhocnnoimaaGbs
import Derived.Test.YtgjdkhocnnoimaaPu2

set_option linter.unusedSimpArgs false

set_option linter.unusedVariables false

namespace Go.Sim

open Go Go.Proofs

theorem all_range {n : Nat} {P : Nat → Bool} (h : (List.range n).all P = true) {k : Nat} (hk : k < n) : P k = true := by
  rw [List.all_eq_true] at h; exact h k (by simpa using hk)

theorem small8_part {vs : List Int} (h : small8 vs) (s r : Nat) : small8 ((vs.drop r).take s) := fun v hv => h v (List.mem_of_mem_drop (List.mem_of_mem_take hv))
theorem small8_take {vs : List Int} (h : small8 vs) (s : Nat) : small8 (vs.take s) := fun v hv => h v (List.mem_of_mem_take hv)
theorem part_len {vs : List Int} {s r : Nat} (h : r + s ≤ vs.length) : ((vs.drop r).take s).length = s := by simp; omega
theorem part_get {vs : List Int} {s r k : Nat} (hk : k < s) : ((vs.drop r).take s).getD k 0 = vs.getD (r + k) 0 := by
  simp [List.getD_eq_getElem?_getD, List.getElem?_take, hk]

/-! ### Frames -/

theorem framesF_map (vs : List Int) (size step : Int) : framesF (vs.map cvI) size step = (List.range ((step.toNat + vs.length - size.toNat) / step.toNat)).map fun j => ((vs.drop (j * step.toNat)).take size.toNat).map cvI := by
  unfold framesF
  rw [List.length_map, append_all _ (fun j => (List.take ((size.toNat + j * step.toNat) - j * step.toNat) (List.drop (j * step.toNat) (vs.map cvI)))) (ev_framesOf_L1_S (vs.map cvI) vs.length size step) rfl (fun _ => rfl)]
  refine List.map_congr_left fun j _ => ?_
  rw [Nat.add_sub_cancel, ← List.map_drop, ← List.map_take]

theorem framesF_len (vs : List Int) (size step : Int) : (framesF (vs.map cvI) size step).length = (step.toNat + vs.length - size.toNat) / step.toNat := by rw [framesF_map]; simp
theorem framesF_rowI (vs : List Int) (size step : Int) {j : Nat} (hj : j < (step.toNat + vs.length - size.toNat) / step.toNat) : (framesF (vs.map cvI) size step).getD j [] = ((vs.drop (j * step.toNat)).take size.toNat).map cvI := by
  rw [framesF_map]; simp [List.getD_eq_getElem?_getD, hj]

theorem framesOf_t {vs : List Int} (hv : small8 vs) (hl : vs.length ≤ 256) {size step : Int} (h1 : 1 ≤ size) (h2 : size ≤ 256) (h3 : 1 ≤ step) (h4 : step ≤ 256) : framesOfF (vs.map cvI) size step = (framesF (vs.map cvI) size step, true) := by
  unfold framesOfF
  rw [if_pos (isSnd_int hv hl), if_pos h1, if_pos h2, if_pos h3, if_pos h4]

/-! ### Frames joined -/

theorem set_next {α : Type} (pre : List α) (x y : α) (m : Nat) : List.set (pre ++ List.replicate (m + 1) y) pre.length x = (pre ++ [x]) ++ List.replicate m y := by
  rw [List.set_append_right _ _ (Nat.le_refl _), Nat.sub_self, List.replicate_succ, List.set_cons_zero, List.append_assoc]; rfl

theorem add_row {ws cs : List Int} (hc : ∀ v ∈ cs, v.natAbs ≤ 8) (S : Nat → List Nat) (m : Nat) (h0 : S 0 = ws.map cvI ++ List.replicate (cs.length + m) 0)
    (hs : ∀ j, S (j + 1) = (S j).set (ws.length + j) (fop .add .f32 ((S j).getD (ws.length + j) 0) (List.getD (cs.map cvI) j 0))) : ∀ j, j ≤ cs.length → S j = (ws ++ cs.take j).map cvI ++ List.replicate (cs.length - j + m) 0 := by
  intro j
  induction j with
  | zero => intro _; rw [h0]; simp
  | succ j ih =>
    intro hj
    rw [hs, ih (by omega)]
    have hlen : ((ws ++ cs.take j).map cvI).length = ws.length + j := by simp; omega
    have hz : ((ws ++ cs.take j).map cvI ++ List.replicate (cs.length - j + m) 0).getD (ws.length + j) 0 = 0 := by
      rw [List.getD_eq_getElem?_getD, List.getElem?_append_right (by omega)]
      simp only [List.getElem?_replicate]
      split <;> rfl
    rw [hz, getD_cvI]
    have hcj : cs.getD j 0 = cs[j]'(by omega) := by simp [List.getD_eq_getElem?_getD, show j < cs.length by omega]
    have hb := hc (cs[j]'(by omega)) (List.getElem_mem _)
    have e1 := cvI_add (a := 0) (b := cs.getD j 0) (by omega) (by rw [hcj]; omega) (by rw [hcj]; omega)
    rw [cvI_zero, Int.zero_add] at e1
    rw [e1, show cs.length - j + m = (cs.length - (j + 1) + m) + 1 by omega, ← hlen, set_next]
    congr 1
    rw [List.take_add_one (l := cs), show cs[j]? = some (cs[j]'(by omega)) from List.getElem?_eq_getElem (by omega), hcj]
    simp only [List.map_append, List.map_cons, List.map_nil, Option.toList_some, List.append_assoc]

theorem joinF_t {vs : List Int} (hv : small8 vs) (hl : vs.length ≤ 256) {s : Int} (h1 : 1 ≤ s) (h2 : s ≤ 256) (h3 : s.toNat ≤ vs.length) :
    joinOk (framesF (vs.map cvI) s s) s ∧ joinF (framesF (vs.map cvI) s s) s = ((vs.take (vs.length / s.toNat * s.toNat)).map cvI, true) := by
  obtain ⟨u, rfl⟩ := Int.eq_ofNat_of_zero_le (show 0 ≤ s by omega)
  simp only [Int.toNat_natCast] at h3 ⊢
  have hu : 1 ≤ u := by omega
  have hR : ((u : Int).toNat + vs.length - (u : Int).toNat) / (u : Int).toNat = vs.length / u := by
    rw [Int.toNat_natCast, Nat.add_sub_cancel_left]
  have hlen := framesF_len vs (u : Int) (u : Int)
  have hrow : ∀ j, j < vs.length / u → (framesF (vs.map cvI) (u : Int) (u : Int)).getD j [] = ((vs.drop (j * u)).take u).map cvI := fun j hj => by
    have := framesF_rowI vs (u : Int) (u : Int) (j := j) (by rw [hR]; exact hj)
    simpa only [Int.toNat_natCast] using this
  rw [hR] at hlen
  generalize hF : framesF (vs.map cvI) (u : Int) (u : Int) = F at hlen hrow
  generalize hRd : vs.length / u = R at hlen hrow
  have hmul : R * u ≤ vs.length := by rw [← hRd]; exact Nat.div_mul_le_self _ _
  have hR1 : 1 ≤ R := by rw [← hRd]; exact Nat.div_pos h3 hu
  have hRle : R ≤ R * u := Nat.le_mul_of_pos_right _ hu
  have hin : ∀ j, j < R → j * u + u ≤ vs.length := fun j hj => by
    have := Nat.mul_le_mul_right u (show j + 1 ≤ R from hj)
    rw [Nat.add_mul, Nat.one_mul] at this
    omega
  have hrl : ∀ j, j < R → (F.getD j []).length = u := fun j hj => by rw [hrow j hj, List.length_map, part_len (hin j hj)]
  have h0 := hrl 0 (by omega)
  have hN : (((R : Nat) : Int) - 1) * (u : Int) = (((R - 1) * u : Nat) : Int) := by
    rw [Int.natCast_mul]; congr 1; omega
  have hN2 : (R - 1) * u + u = R * u := by
    conv => rhs; rw [show R = (R - 1) + 1 by omega, Nat.add_mul, Nat.one_mul]
  have hS : ∀ k, k ≤ R → ev_impl_JoinFrames_L1_S F R (u : Int) k = (vs.take (k * u)).map cvI ++ List.replicate (R * u - k * u) 0 := by
    intro k
    induction k with
    | zero =>
      intro _
      simp only [ev_impl_JoinFrames_L1_S, h0, hN, Int.toNat_natCast, hN2]
      simp
    | succ k ih =>
      intro hk
      have hku := Nat.mul_le_mul_right u (show k + 1 ≤ R from hk)
      rw [Nat.add_mul, Nat.one_mul] at hku
      have hpl := part_len (hin k (by omega))
      have htl : (vs.take (k * u)).length = k * u := by simp; omega
      show ev_impl_JoinFrames_L2_S F R (u : Int) k (ev_impl_JoinFrames_L1_S F R (u : Int) k) (List.length (List.getD F k [])) = _
      rw [ih (by omega), hrl k (by omega)]
      have := add_row (ws := vs.take (k * u)) (cs := (vs.drop (k * u)).take u) (fun v hv' => (small8_part hv _ _ v hv').2)
        (ev_impl_JoinFrames_L2_S F R (u : Int) k ((vs.take (k * u)).map cvI ++ List.replicate (R * u - k * u) 0)) (R * u - k * u - u)
        (by rw [hpl]; show _ ++ _ = _; congr 2; omega)
        (fun j => by
          rw [htl]
          show List.set _ ((((k : Nat) : Int) * (u : Int)).toNat + j) _ = _
          rw [show ((((k : Nat) : Int) * (u : Int)).toNat) = k * u by rw [← Int.natCast_mul, Int.toNat_natCast], hrow k (by omega)])
        u (by omega)
      rw [this, hpl, Nat.sub_self, Nat.zero_add]
      have ht : ((vs.drop (k * u)).take u).take u = (vs.drop (k * u)).take u := by rw [List.take_take, Nat.min_self]
      rw [ht, ← List.take_add, Nat.add_mul, Nat.one_mul, Nat.sub_sub]
  have hfin := hS R (Nat.le_refl _)
  rw [Nat.sub_self, List.replicate_zero, List.append_nil] at hfin
  have hsnd : isSnd ((vs.take (R * u)).map cvI) = true := isSnd_int (small8_take hv _) (by simp; omega)
  simp only [isSnd, Bool.and_eq_true] at hsnd
  refine ⟨⟨by omega, by omega, by omega, by omega, by omega, by omega, fun i hi => by rw [hrl i (by omega), h0], by rw [hlen, h0, hN]; omega, fun i hi => by rw [hrow i (by omega)]; exact isSnd_int (small8_part hv _ _) (by rw [part_len (hin i (by omega))]; omega)⟩, ?_⟩
  unfold joinF
  rw [hlen, hfin, if_pos hsnd.2]

/-! ### How loud frames are -/

theorem dotI_nonneg (vs : List Int) : ∀ j, 0 ≤ dotI vs 0 j
  | 0 => Int.le_refl _
  | j + 1 => by
    have := dotI_nonneg vs j
    simp only [dotI, Nat.zero_add]
    have : 0 ≤ vs.getD j 0 * vs.getD j 0 := by
      rcases Int.le_total 0 (vs.getD j 0) with h | h
      · exact Int.mul_nonneg h h
      · exact Int.mul_nonneg_of_nonpos_of_nonpos h h
    omega

theorem loud_acc (xs : List Nat) (n : Nat) : ∀ k, ev_impl_LoudOf_L1_S xs n k = selfAcc xs 0 0 k
  | 0 => rfl
  | k + 1 => by
    show fop .add .f32 (ev_impl_LoudOf_L1_S xs n k) _ = fop .add .f32 (selfAcc xs 0 0 k) _
    rw [loud_acc xs n k, Nat.zero_add]

theorem loudOf_t {vs : List Int} (hv : small8 vs) (h1 : 1 ≤ vs.length) (h4 : vs.length ≤ 4) : (loudOfF (vs.map cvI)).2 = true := by
  unfold loudOfF
  rw [if_pos (isSnd_int hv (by omega)), if_neg (by rw [List.length_map]; omega)]
  show fin32 _ = true
  rw [loud_acc, List.length_map, selfAcc_int hv (by omega) 0 _ (by omega)]
  have h0 := dotI_nonneg vs vs.length
  have hb := dotI_abs hv (k := 0) vs.length (by omega)
  have ht := all_range (all_range loud_tab (k := vs.length - 1) (by omega)) (k := (dotI vs 0 vs.length).toNat) (by omega)
  unfold loudOk at ht
  rw [show (((dotI vs 0 vs.length).toNat : Nat) : Int) = dotI vs 0 vs.length by omega, show vs.length - 1 + 1 = vs.length by omega] at ht
  exact ht

theorem loudF_t {vs : List Int} (hv : small8 vs) (hl : vs.length ≤ 256) {s : Int} (h1 : 1 ≤ s) (h2 : s ≤ 4) (h3 : s.toNat ≤ vs.length) :
    (loudF (vs.map cvI) s 1).2 = true ∧ (loudF (vs.map cvI) s 1).1.length = 1 + vs.length - s.toNat := by
  have hlen := framesF_len vs s 1
  have hR : ((1 : Int).toNat + vs.length - s.toNat) / (1 : Int).toNat = 1 + vs.length - s.toNat := by
    rw [show (1 : Int).toNat = 1 from rfl, Nat.div_one]
  rw [hR] at hlen
  have hgood : allBelow (fun k => ev_impl_LoudFrames_L1_good (vs.map cvI) (List.length (vs.map cvI)) s 1 k (ev_impl_LoudFrames_L1_S (vs.map cvI) (List.length (vs.map cvI)) s 1 k)) (List.length (framesF (vs.map cvI) s 1)) = true := by
    refine allBelow_true.2 fun k hk => ?_
    rw [hlen] at hk
    unfold ev_impl_LoudFrames_L1_good
    have hp : k * (1 : Int).toNat + s.toNat ≤ vs.length := by rw [show (1 : Int).toNat = 1 from rfl]; omega
    rw [if_pos]
    rw [framesF_rowI vs s 1 (by rw [hR]; exact hk)]
    exact loudOf_t (small8_part hv _ _) (by rw [part_len hp]; omega) (by rw [part_len hp]; omega)
  unfold loudF
  rw [if_pos (isSnd_int hv hl), if_pos h1, if_pos (show s ≤ 256 by omega), if_pos (show (1 : Int) ≥ 1 by decide), if_pos (show (1 : Int) ≤ 256 by decide), if_pos hgood]
  refine ⟨rfl, ?_⟩
  show (ev_impl_LoudFrames_L1_S _ _ _ _ _).length = _
  rw [append_all _ (fun k => (loudOfF (List.getD (framesF (vs.map cvI) s 1) k [])).1) (ev_impl_LoudFrames_L1_S (vs.map cvI) (List.length (vs.map cvI)) s 1) rfl (fun _ => rfl), List.length_map, List.length_range, hlen]

/-! ### Rough and smooth -/

def rgAt (vs : List Int) (t k : Nat) : Nat := if k = 0 then cvI (vs.getD 0 0) else fop .sub .f32 (cvI (vs.getD k 0)) (fop .mul .f32 t (cvI (vs.getD (k - 1) 0)))

theorem rough_at {vs : List Int} (hv : small8 vs) {j : Int} (h0 : -4 ≤ j) (h1 : j ≤ 4) {k : Nat} (hk : k < vs.length) :
    fin32 (rgAt vs (shW j) k) = true ∧ (k ≠ 0 → fop .add .f32 (rgAt vs (shW j) k) (fop .mul .f32 (shW j) (cvI (vs.getD (k - 1) 0))) = cvI (vs.getD k 0)) := by
  by_cases hk0 : k = 0
  · subst hk0
    exact ⟨cvI_fin (by have := small8_at hv hk; omega), fun h => absurd rfl h⟩
  · have a := small8_at hv hk
    have b := small8_at hv (k := k - 1) (by omega)
    have ht := all_range rough_tab (k := (j + 4).toNat) (by omega)
    rw [show (((j + 4).toNat : Nat) : Int) - 4 = j by omega, Bool.and_eq_true] at ht
    have := all8_at (all8_at ht.2 b.1 b.2) a.1 a.2
    unfold roughOk at this
    rw [Bool.and_eq_true] at this
    unfold rgAt
    rw [if_neg hk0]
    exact ⟨this.1, fun _ => Nat.eq_of_beq_eq_true this.2⟩

theorem rough_fin {j : Int} (h0 : -4 ≤ j) (h1 : j ≤ 4) : fin32 (shW j) = true := by
  have ht := all_range rough_tab (k := (j + 4).toNat) (by omega)
  rw [show (((j + 4).toNat : Nat) : Int) - 4 = j by omega, Bool.and_eq_true] at ht
  exact ht.1

theorem allFin_map {n : Nat} {f : Nat → Nat} (h : ∀ k, k < n → fin32 (f k) = true) : allFin ((List.range n).map f) = true := by
  refine allBelow_true.2 fun k hk => ?_
  have hk : k < n := by simpa using hk
  have : ((List.range n).map f).getD k 0 = f k := by simp [hk]
  rw [this]; exact h k hk

theorem roughF_t {vs : List Int} (hv : small8 vs) (hl : vs.length ≤ 256) {j : Int} (h0 : -4 ≤ j) (h1 : j ≤ 4) : roughF (vs.map cvI) (shW j) = ((List.range vs.length).map (rgAt vs (shW j)), true) := by
  have hS : ev_changedR_L1_S (vs.map cvI) vs.length (shW j) vs.length = (List.range vs.length).map (rgAt vs (shW j)) := by
    rw [set_all vs.length _ (ev_changedR_L1_S (vs.map cvI) vs.length (shW j)) (by simp [ev_changedR_L1_S]) (fun _ => rfl)]
    refine List.map_congr_left fun k _ => ?_
    unfold rgAt
    rw [getD_cvI, getD_cvI]
    by_cases hk : k = 0
    · subst hk; rfl
    · rw [if_neg hk, if_neg hk]
  have hc : changedR (vs.map cvI) (shW j) = ((List.range vs.length).map (rgAt vs (shW j)), true) := by
    unfold changedR
    rw [List.length_map, if_pos (isSnd_int hv hl), hS, if_pos (allFin_map fun k hk => (rough_at hv h0 h1 hk).1)]
  unfold roughF
  rw [if_pos (rough_fin h0 h1), hc]

theorem smooth_at {vs : List Int} (hv : small8 vs) {j : Int} (h0 : -4 ≤ j) (h1 : j ≤ 4) : ∀ k, k < vs.length → smoothY ((List.range vs.length).map (rgAt vs (shW j))) (shW j) k = cvI (vs.getD k 0) := by
  have hg : ∀ k, k < vs.length → ((List.range vs.length).map (rgAt vs (shW j))).getD k 0 = rgAt vs (shW j) k := fun k hk => by simp [hk]
  intro k
  induction k with
  | zero => intro hk; simp only [smoothY]; rw [hg 0 hk]; rfl
  | succ k ih =>
    intro hk
    simp only [smoothY]
    rw [ih (by omega), hg (k + 1) hk]
    exact (rough_at hv h0 h1 hk).2 (by omega)

theorem smoothF_t {vs : List Int} (hv : small8 vs) (hl : vs.length ≤ 256) {j : Int} (h0 : -4 ≤ j) (h1 : j ≤ 4) : smoothF ((List.range vs.length).map (rgAt vs (shW j))) (shW j) = (vs.map cvI, true) := by
  generalize hX : (List.range vs.length).map (rgAt vs (shW j)) = X
  have hXl : X.length = vs.length := by rw [← hX]; simp
  have hS : (ev_changedM_L1_S X X.length (shW j) 0 X.length).2 = vs.map cvI := by
    rw [thread_all X.length (fun k q => if 0 < k then fop .add .f32 (List.getD X k 0) (fop .mul .f32 (shW j) q) else List.getD X k 0) (smoothY X (shW j)) (ev_changedM_L1_S X X.length (shW j) 0) (by simp [ev_changedM_L1_S]) (fun _ => rfl)
      (fun _ => by simp [smoothY]) (fun k => by simp [smoothY])]
    rw [hXl]
    refine List.ext_getElem (by simp) fun i h1' h2' => ?_
    have hi : i < vs.length := by simpa using h2'
    have := smooth_at hv h0 h1 i hi
    rw [hX] at this
    simp only [List.getElem_map, List.getElem_range]
    rw [this]; simp [List.getD_eq_getElem?_getD, hi]
  have hsnd : isSnd X = true := by
    simp only [isSnd, Bool.and_eq_true, decide_eq_true_eq]
    refine ⟨by omega, ?_⟩
    rw [← hX]; exact allFin_map fun k hk => (rough_at hv h0 h1 hk).1
  have hfin := isSnd_int hv hl
  simp only [isSnd, Bool.and_eq_true] at hfin
  unfold smoothF
  rw [if_pos (rough_fin h0 h1)]
  unfold changedM
  rw [if_pos hsnd, hS, if_pos hfin.2]

/-! ### Sums -/

def psI (vs : List Int) (b : Nat) : Nat → Int
  | 0 => 0
  | j + 1 => psI vs b j + vs.getD (b + j) 0

theorem psI_abs {vs : List Int} (h : small8 vs) (b : Nat) : ∀ j, b + j ≤ vs.length → (psI vs b j).natAbs ≤ 8 * j
  | 0, _ => by simp [psI]
  | j + 1, hj => by
    have := psI_abs h b j (by omega)
    have := small8_at h (k := b + j) (by omega)
    simp only [psI]; omega

theorem thin_sum {vs : List Int} (hv : small8 vs) (hl : vs.length ≤ 256) {t : Int} {k : Nat} (s1 : List Nat) (n : Nat) : ∀ j, k * t.toNat + j ≤ vs.length → ev_impl_Thin_L2_S (vs.map cvI) n t k s1 j = cvI (psI vs (k * t.toNat) j) := by
  intro j
  induction j with
  | zero => intro _; exact cvI_zero.symm
  | succ j ih =>
    intro hj
    have a := psI_abs hv (k * t.toNat) j (by omega)
    have b := small8_at hv (k := k * t.toNat + j) (by omega)
    show fop .add .f32 (ev_impl_Thin_L2_S (vs.map cvI) n t k s1 j) (List.getD (vs.map cvI) (rowAdd (k * t.toNat) j) 0) = _
    rw [ih (by omega), rowAdd_eq, getD_cvI, psI]
    exact cvI_add (by omega) (by omega) (by omega)

theorem thin_at {vs : List Int} (hv : small8 vs) {s : Int} (h1 : 1 ≤ s) (h2 : s ≤ 4) {k : Nat} (hk : k < vs.length / s.toNat) : fin32 (fop .quo .f32 (cvI (psI vs (k * s.toNat) s.toNat)) (cvI s)) = true ∧
    fcmp .gtr .f64 (gapB (fop .mul .f64 (fcv .f32 .f64 (fop .quo .f32 (cvI (psI vs (k * s.toNat) s.toNat)) (cvI s))) (canon .f64 (FloatKind.nearest .f64 s))) (c64 (psI vs (k * s.toNat) s.toNat))) 4562254508917369340 = false := by
  have hm := Nat.div_mul_le_self vs.length s.toNat
  have hm2 := Nat.mul_le_mul_right s.toNat hk
  rw [Nat.succ_mul] at hm2
  have a := psI_abs hv (k * s.toNat) s.toNat (by omega)
  have ht := all_range (all_range thin_tab (k := s.toNat - 1) (by omega)) (k := (psI vs (k * s.toNat) s.toNat + 32).toNat) (by omega)
  rw [show (((psI vs (k * s.toNat) s.toNat + 32).toNat : Nat) : Int) - 32 = psI vs (k * s.toNat) s.toNat by omega, show s.toNat - 1 + 1 = s.toNat by omega] at ht
  unfold thinOk at ht
  rw [show ((s.toNat : Nat) : Int) = s by omega, Bool.and_eq_true, Bool.not_eq_true'] at ht
  exact ht

theorem thinF_t {vs : List Int} (hv : small8 vs) (hl : vs.length ≤ 256) {s : Int} (h1 : 1 ≤ s) (h2 : s ≤ 4) :
    thinF (vs.map cvI) s = ((List.range (vs.length / s.toNat)).map (fun k => fop .quo .f32 (cvI (psI vs (k * s.toNat) s.toNat)) (cvI s)), true) := by
  have hS : ∀ R, R ≤ vs.length / s.toNat → ev_impl_Thin_L1_S (vs.map cvI) vs.length s R = (List.range R).map (fun k => fop .quo .f32 (cvI (psI vs (k * s.toNat) s.toNat)) (cvI s)) := by
    intro R
    induction R with
    | zero => intro _; rfl
    | succ R ih =>
      intro hR
      have hm := Nat.div_mul_le_self vs.length s.toNat
      have hm2 := Nat.mul_le_mul_right s.toNat hR
      rw [Nat.add_mul, Nat.one_mul] at hm2
      show ev_impl_Thin_L1_S (vs.map cvI) vs.length s R ++ [fop .quo .f32 (ev_impl_Thin_L2_S (vs.map cvI) vs.length s R (ev_impl_Thin_L1_S (vs.map cvI) vs.length s R) s.toNat) (canon .f32 (FloatKind.nearest .f32 s))] = _
      rw [thin_sum hv hl _ _ _ (by omega), ih (by omega), List.range_succ, List.map_append]
      rfl
  have hfin : allFin ((List.range (vs.length / s.toNat)).map (fun k => fop .quo .f32 (cvI (psI vs (k * s.toNat) s.toNat)) (cvI s))) = true := by
    refine allFin_map fun k hk => ?_
    exact (thin_at hv h1 h2 hk).1
  unfold thinF
  rw [List.length_map, if_pos (isSnd_int hv hl), if_pos h1, if_pos (show s ≤ 256 by omega), hS _ (Nat.le_refl _), if_pos hfin]

theorem sum64 {vs : List Int} (hv : small8 vs) {b : Nat} (S : Nat → Nat) (h0 : S 0 = 0) (row : Nat → Nat) {u : Nat} (hu : u ≤ 4) (hb : b + u ≤ vs.length) (hrow : ∀ j, j < u → row j = cvI (vs.getD (b + j) 0)) (hs : ∀ j, S (j + 1) = fop .add .f64 (S j) (fcv .f32 .f64 (row j))) :
    ∀ j, j ≤ u → S j = c64 (psI vs b j) := by
  intro j
  induction j with
  | zero => intro _; rw [h0, psI]; decide +kernel
  | succ j ih =>
    intro hj
    have a := psI_abs hv b j (by omega)
    have c := small8_at hv (k := b + j) (by omega)
    have ht := all8_at (all_range sum_tab (k := (psI vs b j + 24).toNat) (by omega)) c.1 c.2
    rw [show (((psI vs b j + 24).toNat : Nat) : Int) - 24 = psI vs b j by omega] at ht
    rw [hs, ih (by omega), hrow j (by omega), psI]
    exact Nat.eq_of_beq_eq_true ht

/-! ### Stretched -/

theorem betw_fin {vs : List Int} (hv : small8 vs) {n k : Nat} {c : Int} (hk : ((k : Nat) : Int) < c) (hc : 2 ≤ c) (hc2 : c ≤ 256) (hn : 2 ≤ n) (hn2 : n ≤ 19) {i : Nat} (hi : i + 1 < vs.length) : fin32 (betw (strF n c k) (cvI (vs.getD i 0)) (cvI (vs.getD (i + 1) 0))) = true := by
  obtain ⟨p1, p2, p3⟩ := strP_spec hk hc hc2 hn (by omega)
  have q := (strI_spec hk hc hc2 hn (by omega)).2.2.2
  have hK : 0 ≤ strK n c k ∧ strK n c k ≤ 17 := by unfold strK; split <;> omega
  have e18 := (int_exact (k := .f32) 18 (by omega)).2
  have hP : Iv .f32 (strP n c k) 0 (canon .f32 (FloatKind.nearest .f32 18)) := ⟨p1, (zero_fl .f32).1, (int_exact (k := .f32) 18 (by omega)).1, by rw [(zero_fl .f32).2]; exact p2, by rw [e18]; exact Rat.le_trans p3 (Rat.intCast_le_intCast.2 (by omega))⟩
  have hKi : Iv .f32 (canon .f32 (FloatKind.nearest .f32 (strK n c k))) (canon .f32 (FloatKind.nearest .f32 0)) (canon .f32 (FloatKind.nearest .f32 17)) := Iv.int .f32 _ hK.1 hK.2 (by omega) (by omega)
  have hF : Iv .f32 (strF n c k) (cvI (-32)) (cvI 32) := hP.sub hKi _ _ (by decide +kernel)
  have a := small8_at hv (k := i) (by omega)
  have b := small8_at hv (k := i + 1) hi
  have hA : Iv .f32 (cvI (vs.getD i 0)) (cvI (-8)) (cvI 8) := Iv.int .f32 _ (by omega) (by omega) (by omega) (by omega)
  have hB : Iv .f32 (cvI (vs.getD (i + 1) 0)) (cvI (-8)) (cvI 8) := Iv.int .f32 _ (by omega) (by omega) (by omega) (by omega)
  have hD : Iv .f32 (fop .sub .f32 (cvI (vs.getD (i + 1) 0)) (cvI (vs.getD i 0))) (cvI (-16)) (cvI 16) := hB.sub hA _ _ (by decide +kernel)
  have hM := hF.mul hD (cvI (-512)) (cvI 512) (by decide +kernel)
  have hR := hA.add hM (cvI (-1024)) (cvI 1024) (by decide +kernel)
  exact hR.fin

theorem str_at (vs : List Int) (n : Nat) (c : Int) (k : Nat) : strAt (vs.map cvI) n c k = betw (strF n c k) (cvI (vs.getD (strK n c k).toNat 0)) (cvI (vs.getD ((strK n c k).toNat + 1) 0)) := by
  unfold strAt
  rw [getD_cvI, getD_cvI]; rfl

theorem stretchF_t {vs : List Int} (hv : small8 vs) (h2 : 4 ≤ vs.length) (hl : vs.length ≤ 19) {c : Int} (hc : 2 ≤ c) (hc2 : c ≤ 256) : stretchF (vs.map cvI) c = (strL (vs.map cvI) vs.length c c.toNat, true) := by
  have hfin : allFin (strL (vs.map cvI) vs.length c c.toNat) = true := by
    refine allFin_map fun k hk => ?_
    rw [str_at]
    have q := (strI_spec (n := vs.length) (k := k) (c := c) (by omega) hc hc2 (by omega) (by omega)).2.2.2
    refine betw_fin hv (by omega) hc hc2 (by omega) hl ?_
    unfold strK; split <;> omega
  exact stretch_t (isSnd_int hv (by omega)) (by simp; omega) hc hc2 (by rw [List.length_map]) hfin

theorem strL_get {xs : List Nat} {n : Nat} {c : Int} {m k : Nat} (hk : k < m) : (strL xs n c m).getD k 0 = strAt xs n c k := by simp [strL, hk]

theorem near_of {f : Nat} {x y : Nat} (h : nearG x y = true) : fcmp .gtr .f64 (gapB (fcv .f32 .f64 x) (fcv .f32 .f64 y)) 4562254508917369340 = false ∧ fcmp .lss .f64 (gapB (fcv .f32 .f64 x) (fcv .f32 .f64 y)) 4562254508917369340 = true := by
  unfold nearG at h
  rw [Bool.and_eq_true, Bool.not_eq_true'] at h
  exact h

theorem same_near {vs : List Int} (hv : small8 vs) (h2 : 4 ≤ vs.length) (hl : vs.length ≤ 19) {k : Nat} (hk : k < vs.length) : nearG (strAt (vs.map cvI) vs.length vs.length k) (cvI (vs.getD k 0)) = true := by
  have ht := all_range (all_range same_tab (k := vs.length - 4) (by omega)) (k := k) (by omega)
  rw [show vs.length - 4 + 4 = vs.length by omega] at ht
  unfold sameOk at ht
  simp only [Bool.or_eq_true, Bool.and_eq_true, decide_eq_true_eq] at ht
  rw [str_at]
  rcases ht with ⟨⟨e1, e2⟩, e3⟩ | ⟨e1, e3⟩
  · have a := small8_at hv (k := k) hk
    have b := small8_at hv (k := k + 1) e2
    rw [e1, Int.toNat_natCast]
    rcases e3 with e3 | e3
    · rw [Nat.eq_of_beq_eq_true e3]; exact all8_at (all8_at betw_tab0 a.1 a.2) b.1 b.2
    · rw [Nat.eq_of_beq_eq_true e3]; exact all8_at (all8_at betw_tabe a.1 a.2) b.1 b.2
  · have q := (strI_spec (n := vs.length) (k := k) (c := (vs.length : Int)) (by omega) (by omega) (by omega) (by omega) (by omega)).2.2.2
    have hK : 0 ≤ strK vs.length (vs.length : Int) k := by unfold strK; split <;> omega
    have a := small8_at hv (k := (strK vs.length (vs.length : Int) k).toNat) (by omega)
    have b := small8_at hv (k := k) hk
    rw [show (strK vs.length (vs.length : Int) k).toNat + 1 = k by omega, Nat.eq_of_beq_eq_true e3]
    exact all8_at (all8_at betw_tab1 a.1 a.2) b.1 b.2

theorem ends_near {vs : List Int} (hv : small8 vs) (h2 : 4 ≤ vs.length) (hl : vs.length ≤ 19) {c : Nat} (hc : 2 ≤ c) (hc2 : c ≤ 21) : nearG (strAt (vs.map cvI) vs.length c 0) (cvI (vs.getD 0 0)) = true ∧ nearG (strAt (vs.map cvI) vs.length c (c - 1)) (cvI (vs.getD (vs.length - 1) 0)) = true := by
  have ht := all_range (all_range ends_tab (k := vs.length - 4) (by omega)) (k := c - 2) (by omega)
  rw [show vs.length - 4 + 4 = vs.length by omega, show c - 2 + 2 = c by omega] at ht
  unfold endsOk at ht
  simp only [Bool.and_eq_true, decide_eq_true_eq] at ht
  obtain ⟨⟨⟨e1, e2⟩, e3⟩, e4⟩ := ht
  rw [str_at, str_at, e1, e3, Nat.eq_of_beq_eq_true e2, Nat.eq_of_beq_eq_true e4]
  have a := small8_at hv (k := 0) (by omega)
  have b := small8_at hv (k := 1) (by omega)
  have a' := small8_at hv (k := vs.length - 2) (by omega)
  have b' := small8_at hv (k := vs.length - 1) (by omega)
  refine ⟨all8_at (all8_at betw_tab0 a.1 a.2) b.1 b.2, ?_⟩
  rw [show ((vs.length : Int) - 2).toNat = vs.length - 2 by omega, show vs.length - 2 + 1 = vs.length - 1 by omega]
  exact all8_at (all8_at betw_tab1 a'.1 a'.2) b'.1 b'.2

/-! ### What the law says -/

structure FrOk (X : List Nat) (N s C : Int) (F : List (List Nat) × Bool) (J L R S K M H : List Nat × Bool) : Prop where
  xl : ((X.length : Nat) : Int) = N
  fo : F.2 = true
  jk : joinOk F.1 s
  jo : J.2 = true
  lo : L.2 = true
  fl : ((F.1.length : Nat) : Int) = Int.tdiv N s
  jl : ((J.1.length : Nat) : Int) = Int.tdiv N s * s
  ll : ((L.1.length : Nat) : Int) = (N - s) + 1
  jx : J.1.length ≤ X.length
  jn : ∀ k, k < J.1.length → fcmp .neq .f32 (List.getD J.1 k 0) (List.getD X k 0) = false
  ro : R.2 = true
  so : S.2 = true
  co : K.2 = true
  no : M.2 = true
  th : H.2 = true
  rl : ((R.1.length : Nat) : Int) = N
  sl : ((S.1.length : Nat) : Int) = N
  cl : ((K.1.length : Nat) : Int) = C
  nl : ((M.1.length : Nat) : Int) = N
  tl : ((H.1.length : Nat) : Int) = Int.tdiv N s
  tr : 0 ≤ Int.tdiv N s ∧ Int.tdiv N s ≤ N ∧ 0 ≤ Int.tdiv N s * s ∧ Int.tdiv N s * s ≤ N
  sn : ∀ k, k < X.length → fcmp .gtr .f64 (gapB (fcv .f32 .f64 (List.getD S.1 k 0)) (fcv .f32 .f64 (List.getD X k 0))) 4562254508917369340 = false
  nn : ∀ k, k < X.length → fcmp .gtr .f64 (gapB (fcv .f32 .f64 (List.getD M.1 k 0)) (fcv .f32 .f64 (List.getD X k 0))) 4562254508917369340 = false
  tn : ∀ k, k < H.1.length → ∀ Q : Nat → Nat, Q 0 = 0 → (∀ j, Q (j + 1) = fop .add .f64 (Q j) (fcv .f32 .f64 (List.getD (List.getD F.1 k []) j 0))) →
    fcmp .gtr .f64 (gapB (fop .mul .f64 (fcv .f32 .f64 (List.getD H.1 k 0)) (canon .f64 (FloatKind.nearest .f64 s))) (Q (List.length (List.getD F.1 k [])))) 4562254508917369340 = false
  c0 : fcmp .lss .f64 (gapB (fcv .f32 .f64 (List.getD K.1 0 0)) (fcv .f32 .f64 (List.getD X 0 0))) 4562254508917369340 = true
  c1 : fcmp .lss .f64 (gapB (fcv .f32 .f64 (List.getD K.1 ((C - 2).toNat + 1) 0)) (fcv .f32 .f64 (List.getD X ((N - 4).toNat + 3) 0))) 4562254508917369340 = true

theorem gap_self {v : Int} (h0 : v ≠ 0) (h8 : v.natAbs ≤ 8) : fcmp .gtr .f64 (gapB (fcv .f32 .f64 (cvI v)) (fcv .f32 .f64 (cvI v))) 4562254508917369340 = false := by
  have t : (all8 fun v => !fcmp .gtr .f64 (gapB (fcv .f32 .f64 (cvI v)) (fcv .f32 .f64 (cvI v))) 4562254508917369340) = true := by decide +kernel
  have := all8_at t h0 h8
  rw [Bool.not_eq_true'] at this
  exact this

theorem frOk {vs : List Int} (hv : small8 vs) {N s j C : Int} (hl : ((vs.length : Nat) : Int) = N) (hN : 4 ≤ N ∧ N ≤ 19) (hs : 1 ≤ s ∧ s ≤ 4) (hj : -4 ≤ j ∧ j ≤ 4) (hC : 2 ≤ C ∧ C ≤ 21) : FrOk (vs.map cvI) N s C (framesOfF (vs.map cvI) s s) (joinF (framesOfF (vs.map cvI) s s).1 s) (loudF (vs.map cvI) s 1) (roughF (vs.map cvI) (shW j)) (smoothF (roughF (vs.map cvI) (shW j)).1 (shW j)) (stretchF (vs.map cvI) C) (stretchF (vs.map cvI) N) (thinF (vs.map cvI) s) := by
  obtain ⟨u, rfl⟩ := Int.eq_ofNat_of_zero_le (show 0 ≤ s by omega)
  subst hl
  have h4 : 4 ≤ vs.length := by omega
  have h19 : vs.length ≤ 19 := by omega
  have hu1 : 1 ≤ u := by omega
  have hu4 : u ≤ 4 := by omega
  have hdiv : Int.tdiv ((vs.length : Nat) : Int) (u : Int) = ((vs.length / u : Nat) : Int) := rfl
  have hmul : vs.length / u * u ≤ vs.length := Nat.div_mul_le_self _ _
  have hle : vs.length / u ≤ vs.length := Nat.div_le_self _ _
  have F := framesOf_t hv (by omega) (size := (u : Int)) (step := (u : Int)) (by omega) (by omega) (by omega) (by omega)
  obtain ⟨J0, J⟩ := joinF_t hv (by omega) (s := (u : Int)) (by omega) (by omega) (by rw [Int.toNat_natCast]; omega)
  have L := loudF_t hv (by omega) (s := (u : Int)) (by omega) (by omega) (by rw [Int.toNat_natCast]; omega)
  have R := roughF_t hv (by omega) hj.1 hj.2
  have S := smoothF_t hv (by omega) hj.1 hj.2
  have T := thinF_t hv (by omega) (s := (u : Int)) (by omega) (by omega)
  have K := stretchF_t hv h4 h19 (c := C) hC.1 (by omega)
  have K2 := stretchF_t hv h4 h19 (c := ((vs.length : Nat) : Int)) (by omega) (by omega)
  rw [Int.toNat_natCast] at J L T K2
  have hR : ((u : Int).toNat + vs.length - (u : Int).toNat) / (u : Int).toNat = vs.length / u := by
    rw [Int.toNat_natCast, Nat.add_sub_cancel_left]
  have hFl : (framesF (vs.map cvI) (u : Int) (u : Int)).length = vs.length / u := by rw [framesF_len, hR]
  have hrow : ∀ k, k < vs.length / u → (framesF (vs.map cvI) (u : Int) (u : Int)).getD k [] = ((vs.drop (k * u)).take u).map cvI := fun k hk => by
    have := framesF_rowI vs (u : Int) (u : Int) (j := k) (by rw [hR]; exact hk)
    simpa only [Int.toNat_natCast] using this
  have hSR : smoothF (roughF (vs.map cvI) (shW j)).1 (shW j) = (vs.map cvI, true) := by rw [R]; exact S
  have htk : ((vs.take (vs.length / u * u)).map cvI).length = vs.length / u * u := by simp; omega
  have hget : ∀ k, k < vs.length → List.getD (vs.map cvI) k 0 = cvI (vs.getD k 0) := fun k _ => getD_cvI vs k
  obtain ⟨c, rfl⟩ := Int.eq_ofNat_of_zero_le (show 0 ≤ C by omega)
  rw [Int.toNat_natCast] at K
  have hE := ends_near hv h4 h19 (c := c) (by omega) (by omega)
  have hs0 : strL (vs.map cvI) vs.length (c : Int) c = strL (vs.map cvI) vs.length (c : Int) c := rfl
  refine { xl := by rw [List.length_map], fo := by rw [F], jk := by rw [F]; exact J0, jo := by rw [F, J], lo := L.1, fl := by rw [F]; show ((List.length (framesF _ _ _) : Nat) : Int) = _; rw [hFl, hdiv], jl := ?_, ll := by rw [L.2]; omega, jx := ?_, jn := ?_, ro := by rw [R], so := by rw [hSR], co := by rw [K], no := by rw [K2], th := by rw [T], rl := by rw [R]; show ((List.length (List.map _ _) : Nat) : Int) = _; rw [List.length_map, List.length_range], sl := by rw [hSR]; show ((List.length (vs.map cvI) : Nat) : Int) = _; rw [List.length_map], cl := by rw [K]; show ((List.length (strL _ _ _ _) : Nat) : Int) = _; rw [strL_len], nl := by rw [K2]; show ((List.length (strL _ _ _ _) : Nat) : Int) = _; rw [strL_len], tl := by rw [T]; show ((List.length (List.map _ _) : Nat) : Int) = _; rw [List.length_map, List.length_range, hdiv], tr := ?_, sn := ?_, nn := ?_, tn := ?_, c0 := ?_, c1 := ?_ }
  · rw [F, J]; show ((List.length (List.map _ _) : Nat) : Int) = _; rw [htk, hdiv, Int.natCast_mul]
  · rw [F, J]; show List.length (List.map _ _) ≤ _; rw [htk, List.length_map]; exact hmul
  · intro k hk
    rw [F, J] at hk ⊢
    have hk : k < vs.length / u * u := by rw [← htk]; exact hk
    have hk' : k < vs.length := by omega
    show fcmp .neq .f32 (List.getD (List.map cvI _) k 0) _ = false
    rw [getD_cvI, getD_cvI]
    have : (vs.take (vs.length / u * u)).getD k 0 = vs.getD k 0 := by simp [List.getD_eq_getElem?_getD, List.getElem?_take, hk]
    rw [this]
    have b := small8_at hv hk'
    exact neq_self (isF_notN (cvI_fl (by omega)).1)
  · rw [hdiv, ← Int.natCast_mul]; omega
  · intro k hk
    have hk : k < vs.length := by simpa using hk
    rw [hSR]
    show fcmp .gtr .f64 (gapB (fcv .f32 .f64 (List.getD (vs.map cvI) k 0)) _) _ = false
    rw [getD_cvI]
    have b := small8_at hv hk
    exact gap_self b.1 b.2
  · intro k hk
    have hk : k < vs.length := by simpa using hk
    rw [K2]
    show fcmp .gtr .f64 (gapB (fcv .f32 .f64 (List.getD (strL _ _ _ _) k 0)) _) _ = false
    rw [strL_get hk, getD_cvI]
    exact (near_of (f := 0) (same_near hv h4 h19 hk)).1
  · intro k hk Q h0 hQ
    rw [T] at hk ⊢
    rw [F] at hQ ⊢
    have hk : k < vs.length / u := by simpa using hk
    have hku := Nat.mul_le_mul_right u hk
    rw [Nat.succ_mul] at hku
    have hr : (framesF (vs.map cvI) (u : Int) (u : Int)).getD k [] = ((vs.drop (k * u)).take u).map cvI := hrow k hk
    have hpl := part_len (vs := vs) (s := u) (r := k * u) (by omega)
    show fcmp .gtr .f64 (gapB (fop .mul .f64 (fcv .f32 .f64 (List.getD (List.map _ (List.range (vs.length / u))) k 0)) _) (Q (List.length (List.getD (framesF _ _ _) k [])))) _ = false
    rw [hr, List.length_map, hpl]
    have hS64 := sum64 hv (b := k * u) Q h0 (fun j => List.getD (((vs.drop (k * u)).take u).map cvI) j 0) (u := u) hu4 (by omega)
      (fun j hj => by show List.getD (List.map cvI _) j 0 = _; rw [getD_cvI, part_get hj])
      (fun j => by rw [hQ j]; show fop .add .f64 _ (fcv .f32 .f64 (List.getD (List.getD (framesF _ _ _) k []) j 0)) = _; rw [hr]) u (Nat.le_refl _)
    rw [hS64]
    have hg : List.getD (List.map (fun k => fop .quo .f32 (cvI (psI vs (k * u) u)) (cvI (u : Int))) (List.range (vs.length / u))) k 0 = fop .quo .f32 (cvI (psI vs (k * u) u)) (cvI (u : Int)) := by simp [hk]
    rw [hg]
    have := (thin_at hv (s := (u : Int)) (by omega) (by omega) (k := k) (by rw [Int.toNat_natCast]; exact hk)).2
    rw [Int.toNat_natCast] at this
    exact this
  · rw [K]
    show fcmp .lss .f64 (gapB (fcv .f32 .f64 (List.getD (strL _ _ _ _) 0 0)) _) _ = true
    rw [strL_get (by omega), getD_cvI]
    exact (near_of (f := 0) hE.1).2
  · rw [K]
    show fcmp .lss .f64 (gapB (fcv .f32 .f64 (List.getD (strL _ _ _ _) _ 0)) _) _ = true
    rw [show ((c : Int) - 2).toNat + 1 = c - 1 by omega, show (((vs.length : Nat) : Int) - 4).toNat + 3 = vs.length - 1 by omega, strL_get (by omega), getD_cvI]
    exact (near_of (f := 0) hE.2).2

abbrev frX (c : List Int) : List Nat := b10SoundF c ((4 : Int) + (atB c (0 : Int) (16 : Int)))
abbrev frT (m : List Int) : Nat := fop .quo .f32 (canon .f32 (FloatKind.nearest .f32 ((atB m (1 : Int) (9 : Int)) - (4 : Int)))) 1090519040
abbrev frF (c m : List Int) : List (List Nat) × Bool := framesOfF (frX c) ((1 : Int) + (atB m (0 : Int) (4 : Int))) ((1 : Int) + (atB m (0 : Int) (4 : Int)))
abbrev frJ (c m : List Int) : List Nat × Bool := joinF (frF c m).1 ((1 : Int) + (atB m (0 : Int) (4 : Int)))
abbrev frL (c m : List Int) : List Nat × Bool := loudF (frX c) ((1 : Int) + (atB m (0 : Int) (4 : Int))) (1 : Int)
abbrev frR (c m : List Int) : List Nat × Bool := roughF (frX c) (frT m)
abbrev frS (c m : List Int) : List Nat × Bool := smoothF (frR c m).1 (frT m)
abbrev frC (c m : List Int) : List Nat × Bool := stretchF (frX c) ((2 : Int) + (atB m (2 : Int) (20 : Int)))
abbrev frN (c : List Int) : List Nat × Bool := stretchF (frX c) ((4 : Int) + (atB c (0 : Int) (16 : Int)))
abbrev frH (c m : List Int) : List Nat × Bool := thinF (frX c) ((1 : Int) + (atB m (0 : Int) (4 : Int)))

theorem fr_law {c m : List Int} (hb : bytesOk c) (hm : bytesOk m) : FrOk (frX c) ((4 : Int) + (atB c (0 : Int) (16 : Int))) ((1 : Int) + (atB m (0 : Int) (4 : Int))) ((2 : Int) + (atB m (2 : Int) (20 : Int))) (frF c m) (frJ c m) (frL c m) (frR c m) (frS c m) (frC c m) (frN c) (frH c m) := by
  have a := atB_range hb (i := 0) (n := 16) (by omega) (by omega)
  have b := atB_range hm (i := 0) (n := 4) (by omega) (by omega)
  have d := atB_range hm (i := 1) (n := 9) (by omega) (by omega)
  have e := atB_range hm (i := 2) (n := 20) (by omega) (by omega)
  obtain ⟨vs, hl, hw, hv⟩ := b10_sound hb (n := (4 : Int) + (atB c (0 : Int) (16 : Int)))
  have := frOk hv (N := (4 : Int) + (atB c (0 : Int) (16 : Int))) (s := (1 : Int) + (atB m (0 : Int) (4 : Int))) (C := (2 : Int) + (atB m (2 : Int) (20 : Int))) (j := (atB m (1 : Int) (9 : Int)) - (4 : Int)) (by omega) (by omega) (by omega) (by omega) (by omega)
  rw [← hw] at this
  exact this

end Go.Sim
