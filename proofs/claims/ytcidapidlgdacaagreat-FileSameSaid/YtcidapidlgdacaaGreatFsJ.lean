import Derived.Test.YtcidapidlgdacaaGreatFsI
set_option linter.unusedVariables false
set_option linter.unusedSimpArgs false
namespace Go.Proofs.YtcidapidlgdacaaGreat
open Go.FL
set_option maxRecDepth 10000
def tilesL (r : R) (tw th : Int) (l : List Comp) : List R := if hdrE r tw th l ≠ 0 then [] else cellsL r tw th
theorem tiles24_ok (m : Mem) (r : R) (tw th : Int) (v : Value) (l : List Comp) (hl : Sl encC 4 m v l) (Q : Ending → Mem → Prop) (hQ : ∀ v' m', m.le m' → Sl encR 4 m' v' (tilesL r tw th l) → Q (.returned v') m') :
    CC Tryz.prog 37 [hv r tw th v] m Q := by
  refine cc_enter Tryz.func37 Tryz.ntmps37 rfl (by kernel_rfl) (by simp) ?_
  simp -implicitDefEqProofs [go_sem, hv]
  refine wpCall_at (header_ok m r tw th v l hl) ?_
  simp -implicitDefEqProofs [go_sem]
  refine wpIf_mk (fun h1 => ?_) (fun h1 => ?_)
  · simp at h1
    simp -implicitDefEqProofs [go_sem]
    refine hQ _ _ (Mem.le.refl _) ?_
    rw [tilesL, if_pos h1]; exact Sl.nil
  · simp at h1
    obtain ⟨g1, g2, g3, g4, g5, g6⟩ := hdr_zero h1
    simp -implicitDefEqProofs [go_sem]
    refine cells_ok m r tw th g4 g6 _ (fun vq m' hle hown => ⟨vq, rfl, ?_⟩)
    simp -implicitDefEqProofs [go_sem]
    refine hQ _ _ hle ?_
    rw [tilesL, if_neg (by simpa using h1)]; exact hown.sl (fun _ => rfl)
end Go.Proofs.YtcidapidlgdacaaGreat
