import Derived.Test.YtcidapidlgdacaaGreatFsD
set_option linter.unusedVariables false
set_option linter.unusedSimpArgs false
namespace Go.Proofs.YtcidapidlgdacaaGreat
open Go.FL
set_option maxRecDepth 10000
theorem R.valid_mk {a b c d : Int} : (R.mk a b c d).valid = true ↔ 0 ≤ a ∧ a ≤ c ∧ c ≤ 4096 ∧ 0 ≤ b ∧ b ≤ d ∧ d ≤ 4096 := by
  simp [R.valid]; omega
theorem R.zero_valid : R.zero.valid = true := by decide
theorem cdiv_mono {a b d : Int} (h : a ≤ b) (hd : 1 ≤ d) : cdiv a d ≤ cdiv b d := by
  have key : ∀ x : Int, cdiv x d = (x + d - 1) / d := by
    intro x
    have h1 := Int.mul_ediv_add_emod x d
    have h2 := Int.emod_nonneg x (show d ≠ 0 by omega)
    have h3 := Int.emod_lt_of_pos x (show 0 < d by omega)
    unfold cdiv
    rw [if_neg (by omega)]
    split
    · have : x + d - 1 = (x % d - 1) + d * (x / d + 1) := by rw [Int.mul_add]; omega
      have h5 : (x % d - 1) / d = 0 := Int.ediv_eq_zero_of_lt (by omega) (by omega)
      rw [this, Int.add_mul_ediv_left _ _ (by omega), h5]; omega
    · have : x + d - 1 = (d - 1) + d * (x / d) := by omega
      have h5 : (d - 1) / d = 0 := Int.ediv_eq_zero_of_lt (by omega) (by omega)
      rw [this, Int.add_mul_ediv_left _ _ (by omega), h5]; omega
  rw [key, key]
  exact Int.ediv_le_ediv (by omega) (by omega)
theorem R.reduce_valid (r : R) (dx dy : Int) : (r.reduce dx dy).valid = true := by
  unfold R.reduce
  split
  · rename_i h
    simp at h
    obtain ⟨h1, h2, h3, h4, h5, h6⟩ := R.of_valid h.1.1.1.1
    have a1 := cdiv_bd (a := r.x0) (b := dx) (by omega); have a2 := cdiv_bd (a := r.x1) (b := dx) (by omega)
    have a3 := cdiv_bd (a := r.y0) (b := dy) (by omega); have a4 := cdiv_bd (a := r.y1) (b := dy) (by omega)
    have m1 := cdiv_mono h2 (d := dx) (by omega); have m2 := cdiv_mono h5 (d := dy) (by omega)
    exact R.valid_mk.2 (by omega)
  · exact R.zero_valid
theorem resR_valid (r : R) (n res : Int) : (resR r n res).valid = true := by
  unfold resR; split
  · exact R.zero_valid
  · exact R.reduce_valid _ _ _
theorem half_bd {a : Int} (h0 : 0 ≤ a) (b : Bool) : 0 ≤ half a b ∧ half a b ≤ a := by
  unfold half; split <;> omega
theorem half_mono {a c : Int} (h : a ≤ c) (b : Bool) : half a b ≤ half c b := by
  unfold half; split <;> omega
theorem bandR_valid {r : R} (h : r.valid = true) (b c : Bool) : (bandR r b c).valid = true := by
  obtain ⟨h1, h2, h3, h4, h5, h6⟩ := R.of_valid h
  have a1 := half_bd h1 b; have a2 := half_bd (a := r.x1) (by omega) b; have a3 := half_bd h4 c; have a4 := half_bd (a := r.y1) (by omega) c
  have m1 := half_mono h2 b; have m2 := half_mono h5 c
  exact R.valid_mk.2 (by omega)
theorem bands_ok' (r : R) (hr : r.valid = true) : Pure Tryz.prog 153 [r.v] (.agg #[.int .i64 (bandR r false false).x0, .int .i64 (bandR r false false).y0, .int .i64 (bandR r false false).x1, .int .i64 (bandR r false false).y1, .int .i64 (bandR r true false).x0, .int .i64 (bandR r true false).y0, .int .i64 (bandR r true false).x1, .int .i64 (bandR r true false).y1, .int .i64 (bandR r false true).x0, .int .i64 (bandR r false true).y0, .int .i64 (bandR r false true).x1, .int .i64 (bandR r false true).y1, .int .i64 (bandR r true true).x0, .int .i64 (bandR r true true).y0, .int .i64 (bandR r true true).x1, .int .i64 (bandR r true true).y1]) := by
  have h := bands_ok r
  rwa [bandsV, if_pos hr] at h
def bandSel (q : R) (o : Int) : R := if o = 1 then bandR q true false else if o = 2 then bandR q false true else bandR q true true
def bandRect (r : R) (n i : Int) : R := if (i < 0 ∨ countL n ≤ i) ∨ r.valid = false then .zero else if i = 0 then resR r n 0 else bandSel (resR r n ((i + 2) / 3)) (i - 3 * ((i + 2) / 3) + 3)
theorem bandRect_valid (r : R) (n i : Int) : (bandRect r n i).valid = true := by
  unfold bandRect; split
  · exact R.zero_valid
  · split
    · exact resR_valid _ _ _
    · unfold bandSel; split
      · exact bandR_valid (resR_valid _ _ _) _ _
      · split <;> exact bandR_valid (resR_valid _ _ _) _ _
theorem band_ok (r : R) (n i : Int) : Pure Tryz.prog 116 [r.v, .int .i64 n, .int .i64 i] (bandRect r n i).v := by
  intro m
  refine cc_enter Tryz.func116 Tryz.ntmps116 rfl (by kernel_rfl) (by simp) ?_
  simp [go_sem, R.v]
  have hpl := place_ok i n
  by_cases h1 : i < 0 ∨ countL n ≤ i
  · rw [placeV, if_pos h1] at hpl
    refine wpCall_pure hpl ?_
    simp [go_sem]
    refine wpGC_pure (by simp) (valid_ok r) ?_
    simp [go_sem]
    have : bandRect r n i = .zero := by rw [bandRect, if_pos (.inl h1)]
    simp [this, R.zero]
  · have hbd := countL_bd h1
    by_cases h2 : i = 0
    · rw [placeV, if_neg h1, if_pos h2] at hpl
      refine wpCall_pure hpl ?_
      simp [go_sem]
      refine wpGC_pure (by simp) (valid_ok r) ?_
      simp [go_sem]
      refine wpIf_mk (fun hb => ?_) (fun hb => ?_)
      · simp at hb
        simp [go_sem]
        have : bandRect r n i = .zero := by rw [bandRect, if_pos (.inr hb)]
        simp [this, R.zero]
      · simp at hb
        simp [go_sem, h2]
        refine wpCall_pure (resolution_ok r n 0) ?_
        have : bandRect r n 0 = resR r n 0 := by rw [bandRect, if_neg (by rw [hb]; subst h2; simpa using h1), if_pos rfl]
        simp [go_sem, R.v, this]
    · rw [placeV, if_neg h1, if_neg h2] at hpl
      refine wpCall_pure hpl ?_
      simp [go_sem]
      refine wpGC_pure (by simp) (valid_ok r) ?_
      simp [go_sem]
      refine wpIf_mk (fun hb => ?_) (fun hb => ?_)
      · simp at hb
        simp [go_sem]
        have : bandRect r n i = .zero := by rw [bandRect, if_pos (.inr hb)]
        simp [this, R.zero]
      · simp at hb
        have e1 : IntKind.i64.wrap (n - (n - (i + 2) / 3 + 1)) = (i + 2) / 3 - 1 := by rw [wrapI (by omega) (by omega)]; omega
        have e2 : IntKind.i64.wrap ((i + 2) / 3) = (i + 2) / 3 := wrapI (by omega) (by omega)
        have h2b : (i == 0) = false := by simpa using h2
        simp [go_sem, h2b, e1, e2]
        refine wpCall_pure (resolution_ok r n ((i + 2) / 3)) ?_
        simp [go_sem, R.v]
        refine wpCall_pure (bands_ok' _ (resR_valid r n ((i + 2) / 3))) ?_
        have hbr : bandRect r n i = bandSel (resR r n ((i + 2) / 3)) (i - 3 * ((i + 2) / 3) + 3) := by rw [bandRect, if_neg (by rw [hb]; simpa using h1), if_neg h2]
        rw [hbr]
        have ho : i - 3 * ((i + 2) / 3) + 3 = 1 ∨ i - 3 * ((i + 2) / 3) + 3 = 2 ∨ i - 3 * ((i + 2) / 3) + 3 = 3 := by omega
        rcases ho with ho | ho | ho
        · simp [go_sem, ho, bandSel]
        · simp [go_sem, ho, bandSel]
        · simp [go_sem, ho, bandSel]
end Go.Proofs.YtcidapidlgdacaaGreat
