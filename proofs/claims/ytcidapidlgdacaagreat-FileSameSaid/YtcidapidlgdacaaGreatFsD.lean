import Derived.Test.YtcidapidlgdacaaGreatFsC
set_option linter.unusedVariables false
set_option linter.unusedSimpArgs false
namespace Go.Proofs.YtcidapidlgdacaaGreat
open Go.FL
set_option maxRecDepth 10000
def countL (n : Int) : Int := if n < 0 ∨ 5 < n then 0 else 3 * n + 1
theorem count_ok (n : Int) : Pure Tryz.prog 151 [.int .i64 n] (.int .i64 (countL n)) := by
  intro m
  refine cc_enter Tryz.func151 Tryz.ntmps151 rfl (by kernel_rfl) (by simp) ?_
  simp [go_sem]
  refine wpIf_mk (fun hb => ?_) (fun hb => ?_)
  · simp at hb; simp [go_sem]; rw [countL, if_pos hb]
  · simp at hb; simp [go_sem]; rw [countL, if_neg (by omega), wrapI (x := 3 * n) (by omega) (by omega), wrapI (by omega) (by omega)]
def placeV (i n : Int) : Value := if i < 0 ∨ countL n ≤ i then .tuple #[.int .i64 0, .int .i64 0, .bool false] else if i = 0 then .tuple #[.int .i64 n, .int .i64 0, .bool true] else
  .tuple #[.int .i64 (n - (i + 2) / 3 + 1), .int .i64 (i - 3 * ((i + 2) / 3) + 3), .bool true]
theorem countL_bd {n i : Int} (h : ¬ (i < 0 ∨ countL n ≤ i)) : 0 ≤ n ∧ n ≤ 5 ∧ 0 ≤ i ∧ i ≤ 3 * n := by
  unfold countL at h
  split at h <;> omega
theorem place_ok (i n : Int) : Pure Tryz.prog 152 [.int .i64 i, .int .i64 n] (placeV i n) := by
  intro m
  refine cc_enter Tryz.func152 Tryz.ntmps152 rfl (by kernel_rfl) (by simp) ?_
  simp [go_sem]
  refine wpGC_pure (by simp) (count_ok n) ?_
  simp [go_sem]
  refine wpIf_mk (fun hb => ?_) (fun hb => ?_)
  · simp at hb; simp [go_sem]; rw [placeV, if_pos hb]
  · simp at hb
    have hbd := countL_bd (n := n) (i := i) (by omega)
    simp [go_sem]
    refine wpIf_mk (fun hc => ?_) (fun hc => ?_)
    · simp at hc; simp [go_sem]; rw [placeV, if_neg (by omega), if_pos hc]
    · simp at hc
      have e1 : IntKind.i64.wrap (i + 2) = i + 2 := wrapI (by omega) (by omega)
      have e2 : (i + 2).tdiv 3 = (i + 2) / 3 := Int.tdiv_eq_ediv_of_nonneg (by omega)
      have e3 : IntKind.i64.wrap ((i + 2) / 3) = (i + 2) / 3 := wrapI (by omega) (by omega)
      have e4 : IntKind.i64.wrap (n - (i + 2) / 3) = n - (i + 2) / 3 := wrapI (by omega) (by omega)
      have e5 : IntKind.i64.wrap (n - (i + 2) / 3 + 1) = n - (i + 2) / 3 + 1 := wrapI (by omega) (by omega)
      have e6 : IntKind.i64.wrap (3 * ((i + 2) / 3)) = 3 * ((i + 2) / 3) := wrapI (by omega) (by omega)
      have e7 : IntKind.i64.wrap (i - 3 * ((i + 2) / 3)) = i - 3 * ((i + 2) / 3) := wrapI (by omega) (by omega)
      have e8 : IntKind.i64.wrap (i - 3 * ((i + 2) / 3) + 3) = i - 3 * ((i + 2) / 3) + 3 := wrapI (by omega) (by omega)
      simp [go_sem, e1, e2, e3, e4, e5, e6, e7, e8]
      rw [placeV, if_neg (by omega), if_neg hc]
def resR (r : R) (n res : Int) : R := if countL n = 0 ∨ res < 0 ∨ n < res then .zero else r.reduce (2 ^ (n - res).toNat) (2 ^ (n - res).toNat)
theorem resolution_ok (r : R) (n res : Int) : Pure Tryz.prog 115 [r.v, .int .i64 n, .int .i64 res] (resR r n res).v := by
  intro m
  refine cc_enter Tryz.func115 Tryz.ntmps115 rfl (by kernel_rfl) (by simp) ?_
  simp [go_sem, R.v]
  refine wpCall_pure (count_ok n) ?_
  simp [go_sem]
  refine wpIf_mk (fun hb => ?_) (fun hb => ?_)
  · simp at hb
    simp [go_sem]
    have : resR r n res = .zero := by rw [resR, if_pos (by omega)]
    simp [this, R.zero]
  · simp at hb
    have hn : 0 ≤ n ∧ n ≤ 5 := by
      have h1 := hb.1.1
      unfold countL at h1
      split at h1 <;> omega
    simp [go_sem]
    refine loop_rule (fun k : Nat => ⟨[(7, .val (.int .i64 (2 ^ k))), (8, .val (.int .i64 (res + k))), (1, .val (.int .i64 n)), (6, .loc 1 0), (3, .loc 0 0)], [some (48, [.int .i64 r.x0, .int .i64 r.y0, .int .i64 r.x1, .int .i64 r.y1]), some (48, [.int .i64 0, .int .i64 0, .int .i64 0, .int .i64 0])], m⟩)
      (fun k => res + k ≤ n) (fun k => (n - res).toNat - k) 0 (by omega) (St.le_mk (by simp [go_sem]) (by simp [go_sem]) (by simp [go_sem]) (Mem.le.refl _)) (fun k hJ => ?_)
    have hk : k ≤ 5 := by omega
    have h2 : (2 : Int) ^ k ≤ 2 ^ 5 := by exact_mod_cast Nat.pow_le_pow_right (n := 2) (by omega) hk
    have h3 : (0 : Int) < 2 ^ k := Int.pow_pos (by omega)
    have e1 : IntKind.i64.wrap (2 * 2 ^ k) = 2 * 2 ^ k := wrapI (by omega) (by omega)
    have e2 : IntKind.i64.wrap (res + k + 1) = res + k + 1 := wrapI (by omega) (by omega)
    simp [go_sem]
    refine wpIf_mk (fun hc => ?_) (fun hc => ?_)
    · simp at hc
      simp [go_sem, e1, e2]
      exact roundK_normal (k + 1) (by omega) (St.le_mk (by simp [go_sem, Int.pow_succ, Int.mul_comm, Int.add_assoc]) (by simp [go_sem]) (by simp [go_sem]) (Mem.le.refl _)) (by omega)
    · simp at hc
      have hkk : k = (n - res).toNat := by omega
      simp [go_sem]
      refine wpCall_pure (reduce_ok r (2 ^ k) (2 ^ k)) ?_
      simp [go_sem, R.v]
      have : resR r n res = r.reduce (2 ^ k) (2 ^ k) := by rw [resR, if_neg (by omega), ← hkk]
      simp [this]
def half (a : Int) (h : Bool) : Int := if h then a / 2 else (a + 1) / 2
theorem half_ok (a : Int) (h : Bool) (h0 : 0 ≤ a) (h1 : a ≤ 1099511627776) : Pure Tryz.prog 184 [.int .i64 a, .bool h] (.int .i64 (half a h)) := by
  intro m
  refine cc_enter Tryz.func184 Tryz.ntmps184 rfl (by kernel_rfl) (by simp) ?_
  simp [go_sem]
  have e0 : IntKind.i64.wrap (a + 1) = a + 1 := wrapI (by omega) (by omega)
  have e1 : a.tdiv 2 = a / 2 := Int.tdiv_eq_ediv_of_nonneg h0
  have e2 : (a + 1).tdiv 2 = (a + 1) / 2 := Int.tdiv_eq_ediv_of_nonneg (by omega)
  have e3 : IntKind.i64.wrap (a / 2) = a / 2 := wrapI (by omega) (by omega)
  have e4 : IntKind.i64.wrap ((a + 1) / 2) = (a + 1) / 2 := wrapI (by omega) (by omega)
  refine wpIf_mk (fun hb => ?_) (fun hb => ?_)
  · simp [go_sem, e1, e3, half, hb]
  · simp [go_sem, e0, e2, e4, half, hb]
def bandR (r : R) (h v : Bool) : R := ⟨half r.x0 h, half r.y0 v, half r.x1 h, half r.y1 v⟩
def bandsV (r : R) : Value := if r.valid then .agg #[.int .i64 (bandR r false false).x0, .int .i64 (bandR r false false).y0, .int .i64 (bandR r false false).x1, .int .i64 (bandR r false false).y1, .int .i64 (bandR r true false).x0, .int .i64 (bandR r true false).y0, .int .i64 (bandR r true false).x1, .int .i64 (bandR r true false).y1, .int .i64 (bandR r false true).x0, .int .i64 (bandR r false true).y0, .int .i64 (bandR r false true).x1, .int .i64 (bandR r false true).y1, .int .i64 (bandR r true true).x0, .int .i64 (bandR r true true).y0, .int .i64 (bandR r true true).x1, .int .i64 (bandR r true true).y1] else .agg #[.int .i64 0, .int .i64 0, .int .i64 0, .int .i64 0, .int .i64 0, .int .i64 0, .int .i64 0, .int .i64 0, .int .i64 0, .int .i64 0, .int .i64 0, .int .i64 0, .int .i64 0, .int .i64 0, .int .i64 0, .int .i64 0]
theorem bands_ok (r : R) : Pure Tryz.prog 153 [r.v] (bandsV r) := by
  intro m
  refine cc_enter Tryz.func153 Tryz.ntmps153 rfl (by kernel_rfl) (by simp) ?_
  simp [go_sem, R.v]
  refine wpCall_pure (valid_ok r) ?_
  simp [go_sem]
  refine wpIf_mk (fun hb => ?_) (fun hb => ?_)
  · simp at hb
    simp [go_sem, bandsV, hb]
  · simp at hb
    obtain ⟨h1, h2, h3, h4, h5, h6⟩ := R.of_valid hb
    simp [go_sem]
    refine loop_first (round_next ?_)
    -- band 0
    simp [go_sem]
    refine draw_rule [(0, 0), (1, 0), (2, 0), (3, 0), (5, 0), (6, 0), (7, 0), (9, 0), (10, 0), (11, 0), (13, 0), (14, 0), (15, 0), (4, 1), (8, 1), (12, 1), (16, 1), (17, 0), (18, 0), (19, 3)] (by kernel_rfl) (by simp [go_sem]) ?_
    simp [go_sem]
    refine wpCall_pure (half_ok r.x0 false (by omega) (by omega)) ?_
    simp [go_sem]
    refine wpCall_pure (half_ok r.y0 false (by omega) (by omega)) ?_
    simp [go_sem]
    refine wpCall_pure (half_ok r.x1 false (by omega) (by omega)) ?_
    simp [go_sem]
    refine wpCall_pure (half_ok r.y1 false (by omega) (by omega)) ?_
    simp [go_sem]
    refine round_next ?_
    -- band 1
    simp [go_sem]
    refine draw_rule [(0, 0), (1, 0), (2, 0), (3, 0), (5, 0), (6, 0), (7, 0), (9, 0), (10, 0), (11, 0), (13, 0), (14, 0), (15, 0), (4, 1), (8, 1), (12, 1), (16, 1), (17, 0), (18, 0), (19, 3)] (by kernel_rfl) (by simp [go_sem]) ?_
    simp [go_sem]
    refine wpCall_pure (half_ok r.x0 true (by omega) (by omega)) ?_
    simp [go_sem]
    refine wpCall_pure (half_ok r.y0 false (by omega) (by omega)) ?_
    simp [go_sem]
    refine wpCall_pure (half_ok r.x1 true (by omega) (by omega)) ?_
    simp [go_sem]
    refine wpCall_pure (half_ok r.y1 false (by omega) (by omega)) ?_
    simp [go_sem]
    refine round_next ?_
    -- band 2
    simp [go_sem]
    refine draw_rule [(0, 0), (1, 0), (2, 0), (3, 0), (5, 0), (6, 0), (7, 0), (9, 0), (10, 0), (11, 0), (13, 0), (14, 0), (15, 0), (4, 1), (8, 1), (12, 1), (16, 1), (17, 0), (18, 0), (19, 3)] (by kernel_rfl) (by simp [go_sem]) ?_
    simp [go_sem]
    refine wpCall_pure (half_ok r.x0 false (by omega) (by omega)) ?_
    simp [go_sem]
    refine wpCall_pure (half_ok r.y0 true (by omega) (by omega)) ?_
    simp [go_sem]
    refine wpCall_pure (half_ok r.x1 false (by omega) (by omega)) ?_
    simp [go_sem]
    refine wpCall_pure (half_ok r.y1 true (by omega) (by omega)) ?_
    simp [go_sem]
    refine round_next ?_
    -- band 3
    simp [go_sem]
    refine draw_rule [(0, 0), (1, 0), (2, 0), (3, 0), (5, 0), (6, 0), (7, 0), (9, 0), (10, 0), (11, 0), (13, 0), (14, 0), (15, 0), (4, 1), (8, 1), (12, 1), (16, 1), (17, 0), (18, 0), (19, 3)] (by kernel_rfl) (by simp [go_sem]) ?_
    simp [go_sem]
    refine wpCall_pure (half_ok r.x0 true (by omega) (by omega)) ?_
    simp [go_sem]
    refine wpCall_pure (half_ok r.y0 true (by omega) (by omega)) ?_
    simp [go_sem]
    refine wpCall_pure (half_ok r.x1 true (by omega) (by omega)) ?_
    simp [go_sem]
    refine wpCall_pure (half_ok r.y1 true (by omega) (by omega)) ?_
    simp [go_sem]
    refine round_next ?_
    simp [go_sem, bandsV, hb, bandR]
end Go.Proofs.YtcidapidlgdacaaGreat
