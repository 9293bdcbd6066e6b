import Derived.Test.YtcidapidlgdacaaGreatFsAD
set_option linter.unusedVariables false
set_option linter.unusedSimpArgs false
namespace Go.Proofs.YtcidapidlgdacaaGreat
open Go.FL
set_option maxRecDepth 10000
theorem law_ok (m : Mem) (f g : Fil) (vr vp vm vs ur up um us : Value) (hf : FileAt m vr vp vm vs f) (hg : FileAt m ur up um us g)
    (Q : Ending → Mem → Prop) (hQ : ∀ m', m.le m' → Q (.returned (.bool true)) m') : CC Tryz.prog 3 [fv f vr vp vm vs, fv g ur up um us] m Q := by
  refine cc_enter Tryz.func3 Tryz.ntmps3 rfl (by kernel_rfl) (by simp) ?_
  simp -implicitDefEqProofs [go_sem, fv, fc]
  refine few48_ok m f vr vp vm vs hf _ (fun r m1 k1 => ⟨_, rfl, ?_⟩)
  cases r with
  | false =>
    simp -implicitDefEqProofs [go_sem]
    refine wpGC_at (r := .bool true) (fun h => by simp at h) ?_
    simp -implicitDefEqProofs [go_sem]
    refine awake_ok m1 _ (fun m2 k2 => ⟨_, rfl, ?_⟩)
    simp -implicitDefEqProofs [go_sem]
    exact hQ m2 (k1.trans k2)
  | true =>
    simp -implicitDefEqProofs [go_sem]
    refine wpGC_split (fun _ => ⟨trivial, few48_ok m1 g ur up um us (hg.le k1) _ (fun r m2 k2 => ⟨_, rfl, ?_⟩)⟩) (by simp)
    have k12 := k1.trans k2
    cases r with
    | false =>
      simp -implicitDefEqProofs [go_sem]
      refine awake_ok m2 _ (fun m3 k3 => ⟨_, rfl, ?_⟩)
      simp -implicitDefEqProofs [go_sem]
      exact hQ m3 (k12.trans k3)
    | true =>
      simp -implicitDefEqProofs [go_sem]
      refine draw_rule [(0, 0), (1, 0), (3, 0), (4, 0), (2, 1), (5, 1), (6, 0), (7, 0), (8, 0), (9, 0), (10, 1), (11, 0), (12, 0), (13, 1), (14, 0), (15, 0)] (by kernel_rfl) (by simp [go_sem]) ?_
      simp -implicitDefEqProofs [go_sem]
      have e1 := fileSame_ok m2 f g vr vp vm vs ur up um us (hf.le k12) (hg.le k12)
      have e2 := same48_ok m2 f g vr vp vm vs ur up um us (hf.le k12) (hg.le k12)
      have e3 := fileSame_ok m2 f f vr vp vm vs vr vp vm vs (hf.le k12) (hf.le k12)
      rw [sameF_self] at e3
      refine wpCall_at e1 ?_
      simp -implicitDefEqProofs [go_sem]
      refine wpCall_at e2 ?_
      simp -implicitDefEqProofs [go_sem]
      refine wpGC_at (fun _ => ⟨trivial, e3⟩) ?_
      simp -implicitDefEqProofs [go_sem]
      refine wpGC_split (fun _ => ⟨trivial, awake_ok m2 _ (fun m3 k3 => ⟨_, rfl, ?_⟩)⟩) (by simp)
      simp -implicitDefEqProofs [go_sem, k3]
      exact hQ m3 (k12.trans k3)
end Go.Proofs.YtcidapidlgdacaaGreat
