import Derived.Test.YtcidapidlgdacaaGreatFlR
import Derived.Test.YtcidapidlgdacaaGreatFsTab
set_option linter.unusedVariables false
set_option linter.unusedSimpArgs false
namespace Go.Proofs.YtcidapidlgdacaaGreat
open Go.FL
set_option maxRecDepth 10000
def cdiv (a b : Int) : Int := if b < 1 then 0 else if 0 < a % b then a / b + 1 else a / b
def fdiv (a b : Int) : Int := if b < 1 then 0 else a / b
theorem cdiv_ok (a b : Int) (h0 : 0 ≤ a) (h1 : a ≤ 1099511627776) : Pure Tryz.prog 110 [.int .i64 a, .int .i64 b] (.int .i64 (cdiv a b)) := by
  intro m
  refine cc_enter Tryz.func110 Tryz.ntmps110 rfl (by kernel_rfl) (by simp) ?_
  simp [go_sem]
  refine wpIf_mk (fun hb => ?_) (fun hb => ?_)
  · simp at hb; simp [go_sem, cdiv, hb]
  · simp at hb
    have hq := Int.tdiv_eq_ediv_of_nonneg (b := b) h0
    have hr := Int.tmod_eq_emod_of_nonneg (b := b) h0
    have hle : a / b ≤ a := Int.ediv_le_self b h0
    have h0' : 0 ≤ a / b := Int.ediv_nonneg h0 (by omega)
    have hs : IntKind.i64.wrap (a.tdiv b) = a / b := by rw [hq]; exact wrapI (by omega) (by omega)
    have hs1 : IntKind.i64.wrap (a / b + 1) = a / b + 1 := wrapI (by omega) (by omega)
    simp [go_sem, hs, hr, show ¬ b = 0 by omega]
    refine wpIf_mk (fun hc => ?_) (fun hc => ?_)
    · simp at hc; simp [go_sem, hs1, cdiv, hc, show ¬ b < 1 by omega]
    · simp at hc; simp [go_sem, cdiv, show ¬ 0 < a % b by omega, show ¬ b < 1 by omega]
theorem fdiv_ok (a b : Int) (h0 : 0 ≤ a) (h1 : a ≤ 1099511627776) : Pure Tryz.prog 111 [.int .i64 a, .int .i64 b] (.int .i64 (fdiv a b)) := by
  intro m
  refine cc_enter Tryz.func111 Tryz.ntmps111 rfl (by kernel_rfl) (by simp) ?_
  simp [go_sem]
  refine wpIf_mk (fun hb => ?_) (fun hb => ?_)
  · simp at hb; simp [go_sem, fdiv, hb]
  · simp at hb
    have hq := Int.tdiv_eq_ediv_of_nonneg (b := b) h0
    have hr := Int.tmod_eq_emod_of_nonneg (b := b) h0
    have hle : a / b ≤ a := Int.ediv_le_self b h0
    have h0' : 0 ≤ a / b := Int.ediv_nonneg h0 (by omega)
    have hn : 0 ≤ a % b := Int.emod_nonneg a (by omega)
    have hs : IntKind.i64.wrap (a.tdiv b) = a / b := by rw [hq]; exact wrapI (by omega) (by omega)
    simp [go_sem, hs, hr, show ¬ b = 0 by omega, show ¬ a % b < 0 by omega, fdiv, show ¬ b < 1 by omega]
structure R where
  x0 : Int
  y0 : Int
  x1 : Int
  y1 : Int
def R.v (r : R) : Value := .agg #[.int .i64 r.x0, .int .i64 r.y0, .int .i64 r.x1, .int .i64 r.y1]
def R.valid (r : R) : Bool := decide (0 ≤ r.x0) && decide (r.x0 ≤ r.x1) && decide (r.x1 ≤ 4096) && decide (0 ≤ r.y0) && decide (r.y0 ≤ r.y1) && decide (r.y1 ≤ 4096)
def R.empty (r : R) : Bool := decide (r.x0 ≥ r.x1) || decide (r.y0 ≥ r.y1)
theorem valid_ok (r : R) : Pure Tryz.prog 63 [r.v] (.bool r.valid) := by
  intro m
  refine cc_enter Tryz.func63 Tryz.ntmps63 rfl (by kernel_rfl) (by simp) ?_
  simp [go_sem, R.v, R.valid]
theorem empty_ok (r : R) : Pure Tryz.prog 64 [r.v] (.bool r.empty) := by
  intro m
  refine cc_enter Tryz.func64 Tryz.ntmps64 rfl (by kernel_rfl) (by simp) ?_
  simp [go_sem, R.v, R.empty]
def inR (n lo hi : Int) : Bool := decide (lo ≤ n) && decide (n ≤ hi)
theorem in_ok (n lo hi : Int) : Pure Tryz.prog 65 [.int .i64 n, .int .i64 lo, .int .i64 hi] (.bool (inR n lo hi)) := by
  intro m
  refine cc_enter Tryz.func65 Tryz.ntmps65 rfl (by kernel_rfl) (by simp) ?_
  simp [go_sem, inR]
theorem R.of_valid {r : R} (h : r.valid = true) : 0 ≤ r.x0 ∧ r.x0 ≤ r.x1 ∧ r.x1 ≤ 4096 ∧ 0 ≤ r.y0 ∧ r.y0 ≤ r.y1 ∧ r.y1 ≤ 4096 := by
  simp [R.valid] at h; omega
def R.area (r : R) : Int := if r.valid then (r.x1 - r.x0) * (r.y1 - r.y0) else 0
theorem area_ok (r : R) : Pure Tryz.prog 68 [r.v] (.int .i64 r.area) := by
  intro m
  refine cc_enter Tryz.func68 Tryz.ntmps68 rfl (by kernel_rfl) (by simp) ?_
  simp [go_sem, R.v]
  refine wpCall_pure (valid_ok r) ?_
  simp [go_sem]
  refine wpIf_mk (fun hb => ?_) (fun hb => ?_)
  · simp at hb; simp [go_sem, R.area, hb]
  · simp at hb
    obtain ⟨h1, h2, h3, h4, h5, h6⟩ := R.of_valid hb
    have e1 : IntKind.i64.wrap (r.x1 - r.x0) = r.x1 - r.x0 := wrapI (by omega) (by omega)
    have e2 : IntKind.i64.wrap (r.y1 - r.y0) = r.y1 - r.y0 := wrapI (by omega) (by omega)
    have h7 : (r.x1 - r.x0) * (r.y1 - r.y0) ≤ 4096 * 4096 := Int.mul_le_mul (by omega) (by omega) (by omega) (by omega)
    have h8 : 0 ≤ (r.x1 - r.x0) * (r.y1 - r.y0) := Int.mul_nonneg (by omega) (by omega)
    have e3 : IntKind.i64.wrap ((r.x1 - r.x0) * (r.y1 - r.y0)) = (r.x1 - r.x0) * (r.y1 - r.y0) := wrapI (by omega) (by omega)
    simp [go_sem, e1, e2, e3, R.area, hb]
def R.zero : R := ⟨0, 0, 0, 0⟩
def R.reduce (r : R) (dx dy : Int) : R := if r.valid && decide (1 ≤ dx) && decide (dx ≤ 4096) && decide (1 ≤ dy) && decide (dy ≤ 4096) then ⟨cdiv r.x0 dx, cdiv r.y0 dy, cdiv r.x1 dx, cdiv r.y1 dy⟩ else .zero
theorem reduce_ok (r : R) (dx dy : Int) : Pure Tryz.prog 66 [r.v, .int .i64 dx, .int .i64 dy] (r.reduce dx dy).v := by
  intro m
  refine cc_enter Tryz.func66 Tryz.ntmps66 rfl (by kernel_rfl) (by simp) ?_
  simp [go_sem, R.v]
  refine wpCall_pure (valid_ok r) ?_
  simp [go_sem]
  refine wpIf_mk (fun hb => ?_) (fun hb => ?_)
  · simp [go_sem]
    have : r.reduce dx dy = .zero := by
      rw [R.reduce, if_neg]; simp at hb ⊢; intro h1 h2 h3 h4; rcases hb with (((h | h) | h) | h) | h <;> first | omega | (rw [h1] at h; cases h)
    simp [this, R.zero]
  · simp at hb
    obtain ⟨h1, h2, h3, h4, h5, h6⟩ := R.of_valid hb.1.1.1.1
    refine draw_rule [(0, 0), (1, 0), (2, 0), (4, 0), (5, 0), (6, 0), (8, 0), (9, 0), (10, 0), (12, 0), (13, 0), (14, 0), (3, 1), (7, 1), (11, 1), (15, 1), (16, 0), (17, 3)] (by kernel_rfl) (by simp [go_sem]) ?_
    simp [go_sem]
    refine wpCall_pure (cdiv_ok r.x0 dx (by omega) (by omega)) ?_
    simp [go_sem]
    refine wpCall_pure (cdiv_ok r.y0 dy (by omega) (by omega)) ?_
    simp [go_sem]
    refine wpCall_pure (cdiv_ok r.x1 dx (by omega) (by omega)) ?_
    simp [go_sem]
    refine wpCall_pure (cdiv_ok r.y1 dy (by omega) (by omega)) ?_
    simp [go_sem]
    have : r.reduce dx dy = ⟨cdiv r.x0 dx, cdiv r.y0 dy, cdiv r.x1 dx, cdiv r.y1 dy⟩ := by
      rw [R.reduce, if_pos]; simp [hb.1.1.1.1]; omega
    simp [this]
def R.inter (a b : R) : R := let r : R := ⟨max a.x0 b.x0, max a.y0 b.y0, min a.x1 b.x1, min a.y1 b.y1⟩; if r.empty then .zero else r
theorem inter_ok (a b : R) : Pure Tryz.prog 112 [a.v, b.v] (a.inter b).v := by
  intro m
  refine cc_enter Tryz.func112 Tryz.ntmps112 rfl (by kernel_rfl) (by simp) ?_
  simp [go_sem, R.v]
  refine wpCall_pure (empty_ok ⟨max a.x0 b.x0, max a.y0 b.y0, min a.x1 b.x1, min a.y1 b.y1⟩) ?_
  simp [go_sem]
  refine wpIf_mk (fun hb => ?_) (fun hb => ?_)
  · simp [go_sem, R.inter, hb, R.zero]
  · simp [go_sem, R.inter, hb]
end Go.Proofs.YtcidapidlgdacaaGreat
