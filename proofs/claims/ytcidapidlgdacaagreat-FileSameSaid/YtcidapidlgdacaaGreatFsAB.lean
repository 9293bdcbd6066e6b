import Derived.Test.YtcidapidlgdacaaGreatFsAA
set_option linter.unusedVariables false
set_option linter.unusedSimpArgs false
namespace Go.Proofs.YtcidapidlgdacaaGreat
open Go.FL
set_option maxRecDepth 10000
theorem mReadUint_nil (m : Mem) : PureAt Tryz.prog 90 [.slice none 0 0, .int .i64 0, .int .i64 2] m (.tuple #[.int .i64 0, .int .i64 7]) := by
  refine cc_enter Tryz.func90 Tryz.ntmps90 rfl (by kernel_rfl) (by simp) ?_
  simp -implicitDefEqProofs [go_sem]
theorem mRead_nil (m : Mem) : PureAt Tryz.prog 49 [.slice none 0 0, .int .i64 0] m (.tuple #[.agg #[.int .i64 0, .slice none 0 0], .int .i64 0, .int .i64 7]) := by
  refine cc_enter Tryz.func49 Tryz.ntmps49 rfl (by kernel_rfl) (by simp) ?_
  simp -implicitDefEqProofs [go_sem]
  refine wpCall_at (mReadUint_nil m) ?_
  simp -implicitDefEqProofs [go_sem]
theorem tb_z115 : ∃ z, tzero Tryz.prog 115 = some z ∧ z.length = 29 ∧ z.all (·.oneCell') = true := ⟨_, tb_zero115, rfl, rfl⟩
theorem readMain_nil (m : Mem) (Q : Ending → Mem → Prop) (hQ : ∀ z, tzero Tryz.prog 115 = some z → Q (.returned (.tuple #[.agg z.toArray, .int .i64 10])) m) : CC Tryz.prog 44 [.slice none 0 0] m Q := by
  refine cc_enter Tryz.func44 Tryz.ntmps44 rfl (by kernel_rfl) (by simp) ?_
  simp -implicitDefEqProofs [go_sem]
  refine wpCall_at (mRead_nil m) ?_
  simp -implicitDefEqProofs [go_sem]
  exact hQ _ tb_zero115
theorem sParse_nil (m : Mem) (Q : Ending → Mem → Prop) (hQ : ∀ z, tzero Tryz.prog 74 = some z → Q (.returned (.tuple #[.agg z.toArray, .int .i64 10])) m) : CC Tryz.prog 21 [.slice none 0 0] m Q := by
  refine cc_enter Tryz.func21 Tryz.ntmps21 rfl (by kernel_rfl) (by simp) ?_
  simp -implicitDefEqProofs [go_sem]
  refine readMain_nil m _ (fun z hz => ⟨_, rfl, ?_⟩)
  rw [tb_zero115] at hz; cases hz
  simp -implicitDefEqProofs [go_sem]
  exact hQ _ tb_zero74
theorem build_nil (m : Mem) : PureAt Tryz.prog 26 [.agg #[.int .i64 0, .slice none 0 0, .slice none 0 0, .slice none 0 0, .slice none 0 0]] m (.tuple #[.slice none 0 0, .int .i64 10]) := by
  refine cc_enter Tryz.func26 Tryz.ntmps26 rfl (by kernel_rfl) (by simp) ?_
  simp -implicitDefEqProofs [go_sem]
  refine sParse_nil m _ (fun z hz => ⟨_, rfl, ?_⟩)
  rw [tb_zero74] at hz; cases hz
  simp -implicitDefEqProofs [go_sem]
theorem valid_nil (m : Mem) : PureAt Tryz.prog 10 [.agg #[.int .i64 0, .slice none 0 0, .slice none 0 0, .slice none 0 0, .slice none 0 0]] m (.int .i64 10) := by
  refine cc_enter Tryz.func10 Tryz.ntmps10 rfl (by kernel_rfl) (by simp) ?_
  simp -implicitDefEqProofs [go_sem]
  refine wpCall_at (build_nil m) ?_
  simp -implicitDefEqProofs [go_sem]
end Go.Proofs.YtcidapidlgdacaaGreat
